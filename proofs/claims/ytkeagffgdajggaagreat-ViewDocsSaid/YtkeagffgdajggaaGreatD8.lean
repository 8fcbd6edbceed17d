/- A part of the proof. -/
import Derived.Test.YtkeagffgdajggaaGreatD7
import Derived.LoopN
import Derived.ScopeJumps
set_option linter.unusedSimpArgs false
set_option linter.unusedVariables false
section
namespace Go.AB
open Go
section
variable{P:Program}{G G':Gh}{n:Nat}{D:List Deferred}{E:St}{a:Act}{w w':World}
theorem sP{ops:Array Oper}{Q:Exit->Act->World->Prop}{K:St->Prop}(G₀:Gh)(w₀:World)
 (hn:∀G' E' a' w',Inv G' n D E' a' w'->aC G₀ w₀ G' w'->K E'->Q .normal a' w'):∀(l:List Oper)(l':List ai)(G:Gh)(E:St)(a:Act)(w:World),cd P n ops l l'=true->Inv G n D E a w->aC G₀ w₀ G w->swp P l' E K->wpList P ops Q l a w
 |[],[],G,E,a,w,_,h,hp,hk=>hn G E a w h hp hk
 |o::l,o'::l',G,E,a,w,hc,h,hp,hk=>by
  simp only[cd,Bool.and_eq_true]at hc
  show BF P ops o a w (wpList P ops Q l) Q
  exact gV h hc.1 hk fun G' E' a' w' h1 h2 h3=>sP G₀ w₀ hn l l' G' E' a' w' hc.2 h1 (hp.trans h2) h3
 |[],_::_,_,_,_,_,hc,_,_,_=>by simp[cd]at hc
 |_::_,[],_,_,_,_,hc,_,_,_=>by simp[cd]at hc
theorem Lw(e:List (Nat×AV))(i:Nat):∀(live:List Nat),look (live.map fun j=>(j,eb (look e j))) i=if i∈live then eb (look e i)else .undef
 |[]=>rfl
 |j::live=>by
  rw[List.map_cons,aQ,Lw e i live]
  by_cases h:j=i
  ·subst h;simp
  ·simp[h,Ne.symm h]
theorem Cn(av:AV)(t:Nat):¬bD (eb av) t:=by cases av<;>simp[eb,bD]
theorem Inv.zR(h:Inv G n D E a w)(live:List Nat):Inv G n D (E.zR live) a w:=by
 have hl:∀i,look (E.zR live).e i=if i∈live then eb (look E.e i)else .undef:=fun i=>Lw E.e i live
 have hu:∀i v,dt G w (E.zR live).e a.tmps i .undef v:=fun i v=>⟨.undef _,trivial⟩
 refine⟨h.aV,h.store,h.size,fun i v hv=>?_,fun i hi=>?_,fun i t ht=>?_,h.uE⟩
 ·rw[hl i]
  by_cases hi:i∈live
  ·rw[if_pos hi]
   have hs:=h.cy i v hv
   generalize look E.e i=av at hs
   have fr:∀av,(∀t,¬bD av t)->dt G w E.e a.tmps i av v->dt G w (E.zR live).e a.tmps i av v:=fun av hno hs=>dt.frame (fun _ _ hv=>hv) (fun b _=>⟨rfl,rfl,rfl⟩) (fun _ _ _ _ hc=>⟨hc,rfl,rfl⟩) _ _ (fun t ht=>(hno t ht).elim) hs
   cases av<;>first|exact hu i v|exact fr _ (fun t ht=>ht) hs
  ·rw[if_neg hi];exact hu i v
 ·rw[hl i]
  by_cases hi':i∈live
  ·rw[if_pos hi',h.Jj i hi];rfl
  ·rw[if_neg hi']
 ·rw[hl i]at ht
  by_cases hi:i∈live
  ·rw[if_pos hi]at ht;exact(Cn _ t ht).elim
  ·rw[if_neg hi]at ht;exact ht.elim
theorem HC(e:List (Nat×AV))(i:Nat):∀(live:List (Nat×Bool)),look (live.map fun p=>(p.1,Yv p.2 (eb (look e p.1)))) i=.undef\/look (live.map fun p=>(p.1,Yv p.2 (eb (look e p.1)))) i=eb (look e i)\/look (live.map fun p=>(p.1,Yv p.2 (eb (look e p.1)))) i=view (eb (look e i))
 |[]=>.inl rfl
 |p::live=>by
  rw[List.map_cons,aQ]
  by_cases h:p.1=i
  ·rw[if_pos h,h]
   cases p.2 with
   |false=>exact .inr (.inl rfl)
   |true=>exact .inr (.inr rfl)
  ·rw[if_neg h];exact HC e i live
theorem dt.aiG{e:List (Nat×AV)}{tmps:Array Value}{i:Nat}{av:AV}{v:Value}(h:dt G w e tmps i av v):dt G w e tmps i (view av) v:=by cases av<;>first|exact h|exact⟨VR.undef _,trivial⟩|exact⟨VR.view h.1,dx.view ..⟩
theorem aaK(av:AV)(h:∀t,¬bD av t)(t:Nat):¬bD (view av) t:=by cases av<;>first|exact h t|exact fun h=>h
theorem Inv.eP(h:Inv G n D E a w)(live:List (Nat×Bool)):Inv G n D (E.eP live) a w:=by
 have fr:∀i v,a.tmps[i]? =some v->dt G w (E.eP live).e a.tmps i (eb (look E.e i)) v:=fun i v hv=>by
  have hs:=h.cy i v hv
  generalize look E.e i=av at hs
  have fr:∀av,(∀t,¬bD av t)->dt G w E.e a.tmps i av v->dt G w (E.eP live).e a.tmps i av v:=fun av hno hs=>dt.frame (fun _ _ hv=>hv) (fun b _=>⟨rfl,rfl,rfl⟩) (fun _ _ _ _ hc=>⟨hc,rfl,rfl⟩) _ _ (fun t ht=>(hno t ht).elim) hs
  cases av<;>first|exact⟨.undef _,trivial⟩|exact fr _ (fun t ht=>ht) hs
 have hl:=fun i=>HC E.e i live
 refine⟨h.aV,h.store,h.size,fun i v hv=>?_,fun i hi=>?_,fun i t ht=>?_,h.uE⟩
 ·rcases hl i with e|e|e
  ·have e':look (E.eP live).e i=.undef:=e
   rw[e'];exact⟨.undef _,trivial⟩
  ·have e':look (E.eP live).e i=eb (look E.e i):=e
   rw[e'];exact fr i v hv
  ·have e':look (E.eP live).e i=view (eb (look E.e i)):=e
   rw[e'];exact dt.aiG (fr i v hv)
 ·rcases hl i with e|e|e
  ·exact e
  ·have e':look (E.eP live).e i=eb (look E.e i):=e
   rw[e',h.Jj i hi];rfl
  ·have e':look (E.eP live).e i=view (eb (look E.e i)):=e
   rw[e',h.Jj i hi];rfl
 ·have ht':bD (look (E.eP live).e i) t:=ht
  rcases hl i with e|e|e
  ·have e':look (E.eP live).e i=.undef:=e
   rw[e']at ht';exact ht'.elim
  ·have e':look (E.eP live).e i=eb (look E.e i):=e
   rw[e']at ht';exact(Cn _ t ht').elim
  ·have e':look (E.eP live).e i=view (eb (look E.e i)):=e
   rw[e']at ht';exact(aaK _ (Cn _) t ht').elim
def aaR(P:Program)(n:Nat):Prop:=
 ∀(D:List Deferred)(draw:Bool)(id:Nat)(ops:Array Oper)(bF:List ai)(q:Nat)(G:Gh)(E:St)(a:Act)(w:World)(K:St->Prop)(Q:Exit->Act->World->Prop),
  cd P n ops ops.toList bF=true->(draw=true->Te ops q bF=true)->Inv G n D E a w->YO P q bF E K->
  (∀G' E' a' w',Inv G' n D E' a' w'->aC G w G' w'->K E'->Q .normal a' w')->(Code.region id ops draw).wp P Q a w
def aaS(P:Program)(n:Nat):Prop:=
 ∀(D:List Deferred)(draw:Bool)(id:Nat)(ops:Array Oper)(bF:List ai)(T:List Nat)(q:Nat)(G:Gh)(E:St)(a:Act)(w:World)(K:St->Prop)(Q:Exit->Act->World->Prop),
  cd P n ops ops.toList bF=true->(draw=true->Mg T ops q bF=true)->Inv G n D E a w->gY T E.e=true->HY P T q bF E K->
  (∀G' E' a' w',Inv G' n D E' a' w'->aC G w G' w'->K E'->Q .normal a' w')->(Code.region id ops draw).wp P Q a w
def aaQ(P:Program)(n:Nat):Prop:=
 ∀(D:List Deferred)(id:Nat)(ops:Array Oper)(T:List Nat)(l:List Item)(G:Gh)(E:St)(a:Act)(w:World)(K:St->Prop)(Q:Exit->Act->World->Prop),
  acn P T n ops l=true->Inv G n D E a w->gY T E.e=true->KU P T l E K->
  (∀G' E' a' w',Inv G' n D E' a' w'->aC G w G' w'->K E'->Q .normal a' w')->(Code.region id ops true).wp P Q a w
def aaT(P:Program)(n:Nat):Prop:=
 ∀(D:List Deferred)(id:Nat)(ops:Array Oper)(gE:List (List Bool))(bF:List ai)(G:Gh)(E:St)(a:Act)(w:World)(K:St->Prop)(Q:Exit->Act->World->Prop),
  cd P n ops ops.toList bF=true->Tg ops gE=true->Inv G n D E a w->Vy P gE bF K bF (xc bF) E->
  (∀G' E' a' w',Inv G' n D E' a' w'->aC G w G' w'->K E'->Q .normal a' w')->(Code.region id ops true).wp P Q a w
def FG(P:Program)(n:Nat):Prop:=aaR P n/\aaS P n/\aaQ P n/\aaT P n
def Rel(n:Nat)(D:List Deferred)(G₀:Gh)(w₀:World)(Q:Exit->St->Prop)(Q':Exit->Act->World->Prop):Prop:=∀x G' E' a' w',Inv G' n D E' a' w'->aC G₀ w₀ G' w'->Q x E'->Q' x a' w'
theorem Vp:∀(c:Code){L:List Code}{cr:Code}{l:Nat},Dn c l=some (L,cr)->c=L.foldr Code.seq (.seq (.label l) cr)/\findLabel c l=some (Code.skip.seq cr):=by
 intro c
 induction c with
 |seq s c _ ih=>
  intro L cr l h
  have gen:(∀m,s≠.label m)->(if(findLabel s l).isNone then(Dn c l).map fun p=>(s::p.1,p.2)else none)=some (L,cr)->Code.seq s c=L.foldr Code.seq (.seq (.label l) cr)/\findLabel (Code.seq s c) l=some (Code.skip.seq cr):=by
   intro _ h
   split at h
   ·rename_i hn
    cases hs:Dn c l with
    |none=>rw[hs]at h;cases h
    |some p=>
     obtain⟨L1,r1⟩:=p
     rw[hs]at h
     injection h with h;injection h with h1 h2;subst h1;subst h2
     have hn':findLabel s l=none:=Option.isNone_iff_eq_none.1 hn
     obtain⟨q1,q2⟩:=ih hs
     refine⟨by rw[q1];rfl,?_⟩
     unfold findLabel
     rw[hn']
     exact q2
   ·cases h
  cases s with
  |label m=>
   have h:(if m==l then some (([]:List Code),c)else none)=some (L,cr):=h
   split at h
   ·rename_i hm
    injection h with h;injection h with h1 h2;subst h1;subst h2
    have hm':m=l:=by simpa using hm
    subst hm'
    exact⟨rfl,by simp[findLabel]⟩
   ·cases h
  |_=>exact gen (fun m e=>by cases e) h
 |_=>intro L cr l h;cases h
theorem py{a:IC}(h:zF a=true):a=.skip:=by cases a<;>first|rfl|cases h
def re(n:Nat)(D:List Deferred)(G₀:Gh)(w₀:World)(C:(St->Prop)->(St->Nat)->Prop)(a:Act)(w:World)(k:Nat):Prop:=∃I μ G U,C I μ/\Inv G n D U a w/\aC G₀ w₀ G w/\I U/\μ U<=k
noncomputable def Sc(n:Nat)(D:List Deferred)(G₀:Gh)(w₀:World)(C:(St->Prop)->(St->Nat)->Prop)(a:Act)(w:World):Nat:=Classical.epsilon fun k=>re n D G₀ w₀ C a w k/\∀j,re n D G₀ w₀ C a w j->k<=j
theorem D7{n:Nat}{D:List Deferred}{G₀:Gh}{w₀:World}{C:(St->Prop)->(St->Nat)->Prop}{a:Act}{w:World}(h:∃k,re n D G₀ w₀ C a w k):
 re n D G₀ w₀ C a w (Sc n D G₀ w₀ C a w)/\∀j,re n D G₀ w₀ C a w j->Sc n D G₀ w₀ C a w<=j:=by
 refine Classical.epsilon_spec (p:=fun k=>re n D G₀ w₀ C a w k/\∀j,re n D G₀ w₀ C a w j->k<=j) ?_
 obtain⟨k,hk⟩:=h
 induction k using Nat.strongRecOn with
 |_ k ih=>
  by_cases hj:∃j,j<k/\re n D G₀ w₀ C a w j
  ·obtain⟨j,hj,hj'⟩:=hj
   exact ih j hj hj'
  ·exact⟨k,hk,fun j hj'=>by
    rcases Nat.lt_or_ge j k with hlt|hge
    ·exact absurd ⟨j,hlt,hj'⟩ hj
    ·exact hge⟩
theorem dn(hD:FG P n):∀(ic:IC)(c:Code)(G₀:Gh)(w₀:World)(Q:Exit->St->Prop)(Q':Exit->Act->World->Prop)(G:Gh)(E:St)(a:Act)(w:World),
 mG P n c ic=true->Rel n D G₀ w₀ Q Q'->Inv G n D E a w->aC G₀ w₀ G w->iU P ic Q E->c.wp P Q' a w
 |.skip,c,G₀,w₀,Q,Q',G,E,a,w,hc,hr,h,hp,hw=>by
  cases c<;>first|(simp[mG]at hc;done)|skip
  exact wp_skip (hr _ G E a w h hp hw)
 |.bJ q bF live,c,G₀,w₀,Q,Q',G,E,a,w,hc,hr,h,hp,hw=>by
  cases c<;>first|(simp[mG]at hc;done)|skip
  rename_i id ops draw
  simp only[mG,Bool.and_eq_true]at hc
  have hn:∀G' E' a' w',Inv G' n D E' a' w'->aC G₀ w₀ G' w'->wP live Q E'->Q' .normal a' w':=fun G' E' a' w' h1 h2 h3=>hr _ G' _ a' w' (h1.zR live) h2 h3
  cases q with
  |none=>
   have hdr:draw=false:=by simpa using hc.2
   subst hdr
   exact wp_region_list (sP G₀ w₀ hn ops.toList bF G E a w hc.1 h hp hw)
  |some q=>
   have hdr:draw=true->Te ops q bF=true:=fun hd=>by
    have:=hc.2
    rw[hd]at this
    simpa using this
   exact hD.1 D draw id ops bF q G E a w _ Q' hc.1 hdr h hw fun G' E' a' w' h1 h2 h3=>hn G' E' a' w' h1 (hp.trans h2) h3
 |.oG T q bF live,c,G₀,w₀,Q,Q',G,E,a,w,hc,hr,h,hp,hw=>by
  cases c<;>first|(simp[mG]at hc;done)|skip
  rename_i id ops draw
  simp only[mG,Bool.and_eq_true]at hc
  have hn:∀G' E' a' w',Inv G' n D E' a' w'->aC G₀ w₀ G' w'->wP live Q E'->Q' .normal a' w':=fun G' E' a' w' h1 h2 h3=>hr _ G' _ a' w' (h1.zR live) h2 h3
  have hdr:draw=true->Mg T ops q bF=true:=fun hd=>by
   have:=hc.2
   rw[hd]at this
   simpa using this
  exact hD.2.1 D draw id ops bF T q G E a w _ Q' hc.1 hdr h hw.1 hw.2 fun G' E' a' w' h1 h2 h3=>hn G' E' a' w' h1 (hp.trans h2) h3
 |.NK T l live,c,G₀,w₀,Q,Q',G,E,a,w,hc,hr,h,hp,hw=>by
  cases c<;>first|(simp[mG]at hc;done)|skip
  rename_i id ops draw
  simp only[mG,Bool.and_eq_true]at hc
  obtain⟨rfl,hc⟩:=hc
  have hn:∀G' E' a' w',Inv G' n D E' a' w'->aC G₀ w₀ G' w'->wP live Q E'->Q' .normal a' w':=fun G' E' a' w' h1 h2 h3=>hr _ G' _ a' w' (h1.zR live) h2 h3
  exact hD.2.2.1 D id ops T l G E a w _ Q' hc h hw.1 hw.2 fun G' E' a' w' h1 h2 h3=>hn G' E' a' w' h1 (hp.trans h2) h3
 |.Vd gE bF live,c,G₀,w₀,Q,Q',G,E,a,w,hc,hr,h,hp,hw=>by
  cases c<;>first|(simp[mG]at hc;done)|skip
  rename_i id ops draw
  simp only[mG,Bool.and_eq_true]at hc
  obtain⟨rfl,hc1,hc2⟩:=hc
  have hn:∀G' E' a' w',Inv G' n D E' a' w'->aC G₀ w₀ G' w'->wP live Q E'->Q' .normal a' w':=fun G' E' a' w' h1 h2 h3=>hr _ G' _ a' w' (h1.zR live) h2 h3
  exact hD.2.2.2 D id ops gE bF G E a w _ Q' hc1 hc2 h hw fun G' E' a' w' h1 h2 h3=>hn G' E' a' w' h1 (hp.trans h2) h3
 |.seq x y,c,G₀,w₀,Q,Q',G,E,a,w,hc,hr,h,hp,hw=>by
  cases c<;>first|(simp[mG]at hc;done)|skip
  rename_i c1 c2
  simp only[mG,Bool.and_eq_true]at hc
  refine wp_seq (dn hD x c1 G₀ w₀ (E6 P y Q) _ G E a w hc.1 ?_ h hp ?_)
  ·intro e G' E' a' w' h1 h2 h3
   cases e with
   |normal=>exact dn hD y c2 G₀ w₀ Q Q' G' E' a' w' hc.2 hr h1 h2 h3
   |_=>exact hr _ G' E' a' w' h1 h2 h3
  ·have:(fun x U=>match x with|.normal=>iU P y Q U|x=>Q x U)=E6 P y Q:=by
    funext e U;cases e<;>rfl
   have hw':iU P x (fun x U=>match x with|.normal=>iU P y Q U|x=>Q x U) E:=hw
   rw[this]at hw'
   exact hw'
 |.cond cx x y,c,G₀,w₀,Q,Q',G,E,a,w,hc,hr,h,hp,hw=>by
  cases c<;>first|(simp[mG]at hc;done)|skip
  rename_i o c1 c2
  simp only[mG,Bool.and_eq_true]at hc
  obtain⟨⟨hx,h1⟩,h2⟩:=hc
  have hb:=XR.aR h hx
  have hw':Tm P x y Q E (E.x cx):=by
   have:iU P (.cond cx x y) Q E=Tm P x y Q E (E.x cx):=by
    show(match E.x cx with|.bool v=>(v=true->iU P x Q E)/\(v=false->iU P y Q E)|_=>False)=_
    cases E.x cx<;>rfl
   rw[<-this];exact hw
  generalize E.x cx=xv at hb hw'
  cases xv<;>try exact hw'.elim
  rename_i v
  have hv:=VR.gx hb
  exact wp_cond_split hv (fun hv=>dn hD x c1 G₀ w₀ Q Q' G E a w h1 hr h hp (hw'.1 hv)) (fun hv=>dn hD y c2 G₀ w₀ Q Q' G E a w h2 hr h hp (hw'.2 hv))
 |.block id x,c,G₀,w₀,Q,Q',G,E,a,w,hc,hr,h,hp,hw=>by
  cases c<;>first|(simp[mG]at hc;done)|skip
  rename_i id' c1
  simp only[mG,Bool.and_eq_true,beq_iff_eq]at hc
  obtain⟨rfl,hc⟩:=hc
  refine wp_block (dn hD x c1 G₀ w₀ (Uh id' Q) _ G E a w hc ?_ h hp hw)
  intro e G' E' a' w' h1 h2 h3
  cases e with
  |exit i=>
   have h3':(bif i==id' then Q .normal E' else Q (.exit i) E'):=h3
   by_cases hi:i=id'
   ·have:(i==id')=true:=by simpa using hi
    rw[this]at h3'
    simpa[Exit.inBlock,hi]using hr _ G' E' a' w' h1 h2 h3'
   ·have:(i==id')=false:=by simpa using hi
    rw[this]at h3'
    simpa[Exit.inBlock,hi]using hr _ G' E' a' w' h1 h2 h3'
  |_=>exact hr _ G' E' a' w' h1 h2 h3
 |.loop live x,c,G₀,w₀,Q,Q',G,E,a,w,hc,hr,h,hp,hw=>by
  cases c<;>first|(simp[mG]at hc;done)|skip
  rename_i c1
  simp only[mG]at hc
  obtain⟨I,μ,h0,hI⟩:=hw
  have key:∀(m:Nat)(G:Gh)(E:St)(a:Act)(w:World),Inv G n D E a w->aC G₀ w₀ G w->I E->μ E<m->Code.rounds P c1 Q' m a w:=by
   intro m
   induction m with
   |zero=>intro G E a w _ _ _ hm;omega
   |succ m ih=>
    intro G E a w h hp hi hm
    rw[rounds_succ]
    refine dn hD x c1 G₀ w₀ (Lx live I μ (μ E) Q) _ G E a w hc ?_ h hp (hI E hi)
    intro e G' E' a' w' h1 h2 h3
    cases e with
    |normal=>exact ih G' _ a' w' (h1.eP live) h2 h3.1 (by have:=h3.2;omega)
    |_=>exact hr _ G' E' a' w' h1 h2 h3
  exact wp_loop_rounds (μ (E.eP live)+1) (key _ G _ a w (h.eP live) hp h0 (by omega))
 |.join live x y,c,G₀,w₀,Q,Q',G,E,a,w,hc,hr,h,hp,hw=>by
  cases c<;>first|(simp[mG]at hc;done)|skip
  rename_i c1 c2
  simp only[mG,Bool.and_eq_true]at hc
  obtain⟨J,h0,hJ⟩:=hw
  refine wp_seq (dn hD x c1 G₀ w₀ (yT live J Q) _ G E a w hc.1 ?_ h hp h0)
  intro e G' E' a' w' h1 h2 h3
  cases e with
  |normal=>exact dn hD y c2 G₀ w₀ Q Q' G' _ a' w' hc.2 hr (h1.eP live) h2 (hJ _ h3)
  |_=>exact hr _ G' E' a' w' h1 h2 h3
 |.exit id,c,G₀,w₀,Q,Q',G,E,a,w,hc,hr,h,hp,hw=>by
  cases c<;>first|(simp[mG]at hc;done)|skip
  simp only[mG,beq_iff_eq]at hc
  subst hc
  exact wp_exit (hr _ G E a w h hp hw)
 |.scope x,c,G₀,w₀,Q,Q',G,E,a,w,hc,hr,h,hp,hw=>by
  cases c<;>first|(simp[mG]at hc;done)|skip
  rename_i c1
  simp only[mG]at hc
  have hw':iU P x (Ae Q) E:=by
   have:(fun x U=>match x with|.goto _=>False|x=>Q x U)=Ae Q:=by funext e U;cases e<;>rfl
   have hw':iU P x (fun x U=>match x with|.goto _=>False|x=>Q x U) E:=hw
   rw[this]at hw'
   exact hw'
  refine wp_scope_straight (dn hD x c1 G₀ w₀ (Ae Q) _ G E a w hc ?_ h hp hw')
  intro e G' E' a' w' h1 h2 h3
  cases e with
  |goto l=>exact h3
  |_=>exact hr _ G' E' a' w' h1 h2 h3
 |.Dj l live x1 x2 x3 y,c,G₀,w₀,Q,Q',G,E,a,w,hc,hr,h,hp,hw=>by
  unfold mG at hc
  split at hc<;>try(cases hc;done)
  all_goals first|(rename_i he;cases he;done)|skip
  rename_i c1 m alC x1' x2' x3' y' he
  injection he with e1 e2 e3 e4 e5 e6
  subst e1;subst e2;subst e3;subst e4;subst e5;subst e6
  have hw':iU P x1 (E6 P x2 (E6 P x3 (QO live (jlp P l live y Q) Q))) E:=by rw[<-RA];exact hw
  let C:(St->Prop)->(St->Nat)->Prop:=fun I μ=>∀U,I U->iU P y (UL l live (fun ρ'=>I ρ'/\μ ρ'<μ U) Q) U
  have key:∀(L:List Code)(cr:Code),Dn c1 l=some (L,cr)->mG P n cr y=true->
   (∀Q0:Exit->Act->World->Prop,(∀e a w,e≠.normal->(∃G U,Inv G n D U a w/\aC G₀ w₀ G w/\QO live (jlp P l live y Q) Q e U)->Q0 e a w)->
     (∀a w,(∃G U,Inv G n D U a w/\aC G₀ w₀ G w/\jlp P l live y Q (U.eP live))->((Code.label l).seq cr).wp P Q0 a w)->(L.foldr Code.seq (.seq (.label l) cr)).wp P Q0 a w)->
   (Code.scope c1).wp P Q' a w:=by
   intro L cr hsp hcr My
   obtain⟨hc1,hfl⟩:=Vp _ hsp
   refine wp_scope_jumps l (fun a w=>∃k,re n D G₀ w₀ C a w k) (Sc n D G₀ w₀ C) hfl ?_ ?_
   ·rw[hc1]
    refine My _ (fun e a' w' he⟨G',U,h1,h2,h3⟩=>?_) (fun a' w'⟨G',U,h1,h2,h3⟩=>?_)
    ·cases e with
     |goto l=>exact h3.elim
     |normal=>exact absurd rfl he
     |_=>exact hr _ G' U a' w' h1 h2 h3
    ·obtain⟨I,μ,h4,hI⟩:=h3
     refine wp_seq (wp_label ?_)
     refine dn hD y cr G₀ w₀ _ _ G' _ a' w' hcr ?_ (h1.eP live) h2 (hI _ h4)
     intro e G2 σ2 a2 w2 q1 q2 q3
     cases e with
     |goto l=>exact⟨q3.1,_,I,μ,G2,_,hI,q1.eP live,q2,q3.2.1,Nat.le_refl _⟩
     |_=>exact hr _ G2 σ2 a2 w2 q1 q2 q3
   ·intro a' w' hJ
    obtain⟨I,μ,G',U,hI,h1,h2,h3,h4⟩:=(D7 hJ).1
    refine wp_seq (wp_skip ?_)
    refine dn hD y cr G₀ w₀ _ _ G' U a' w' hcr ?_ h1 h2 (hI _ h3)
    intro e G2 σ2 a2 w2 q1 q2 q3
    cases e with
    |goto l=>
     have hk:re n D G₀ w₀ C a2 w2 (μ (σ2.eP live)):=⟨I,μ,G2,_,hI,q1.eP live,q2,q3.2.1,Nat.le_refl _⟩
     refine⟨q3.1,⟨_,hk⟩,?_⟩
     have:=(D7 ⟨_,hk⟩).2 _ hk
     have:=q3.2.2
     omega
    |_=>exact hr _ G2 σ2 a2 w2 q1 q2 q3
  split at hc
  ·rename_i cr hsp
   simp only[Bool.and_eq_true]at hc
   obtain⟨k1,k2,k3,hcr⟩:=hc
   rw[py k1,py k2,py k3]at hw'
   exact key _ _ hsp hcr fun Q0 _ hb=>hb _ _ ⟨G,E,h,hp,hw'⟩
  ·rename_i s1 cr hsp
   simp only[Bool.and_eq_true]at hc
   obtain⟨k1,k2,k3,hcr⟩:=hc
   rw[py k2,py k3]at hw'
   refine key _ _ hsp hcr fun Q0 ha hb=>wp_seq (dn hD x1 s1 G₀ w₀ _ _ G E a w k1 ?_ h hp hw')
   intro e G' E' a' w' h1 h2 h3
   cases e with
   |normal=>exact hb _ _ ⟨G',E',h1,h2,h3⟩
   |_=>exact ha _ _ _ (by simp) ⟨G',E',h1,h2,h3⟩
  ·rename_i s1 s2 cr hsp
   simp only[Bool.and_eq_true]at hc
   obtain⟨k1,k2,k3,hcr⟩:=hc
   rw[py k3]at hw'
   refine key _ _ hsp hcr fun Q0 ha hb=>wp_seq (dn hD x1 s1 G₀ w₀ _ _ G E a w k1 ?_ h hp hw')
   intro e G' E' a' w' h1 h2 h3
   cases e with
   |normal=>
    refine wp_seq (dn hD x2 s2 G₀ w₀ _ _ G' E' a' w' k2 ?_ h1 h2 h3)
    intro e G' E' a' w' h1 h2 h3
    cases e with
    |normal=>exact hb _ _ ⟨G',E',h1,h2,h3⟩
    |_=>exact ha _ _ _ (by simp) ⟨G',E',h1,h2,h3⟩
   |_=>exact ha _ _ _ (by simp) ⟨G',E',h1,h2,h3⟩
  ·rename_i s1 s2 s3 cr hsp
   simp only[Bool.and_eq_true]at hc
   obtain⟨k1,k2,k3,hcr⟩:=hc
   refine key _ _ hsp hcr fun Q0 ha hb=>wp_seq (dn hD x1 s1 G₀ w₀ _ _ G E a w k1 ?_ h hp hw')
   intro e G' E' a' w' h1 h2 h3
   cases e with
   |normal=>
    refine wp_seq (dn hD x2 s2 G₀ w₀ _ _ G' E' a' w' k2 ?_ h1 h2 h3)
    intro e G' E' a' w' h1 h2 h3
    cases e with
    |normal=>
     refine wp_seq (dn hD x3 s3 G₀ w₀ _ _ G' E' a' w' k3 ?_ h1 h2 h3)
     intro e G' E' a' w' h1 h2 h3
     cases e with
     |normal=>exact hb _ _ ⟨G',E',h1,h2,h3⟩
     |_=>exact ha _ _ _ (by simp) ⟨G',E',h1,h2,h3⟩
    |_=>exact ha _ _ _ (by simp) ⟨G',E',h1,h2,h3⟩
   |_=>exact ha _ _ _ (by simp) ⟨G',E',h1,h2,h3⟩
  ·cases hc
 |.label l,c,G₀,w₀,Q,Q',G,E,a,w,hc,hr,h,hp,hw=>by
  cases c<;>first|(simp[mG]at hc;done)|skip
  exact wp_label (hr _ G E a w h hp hw)
 |.goto l,c,G₀,w₀,Q,Q',G,E,a,w,hc,hr,h,hp,hw=>by
  cases c<;>first|(simp[mG]at hc;done)|skip
  simp only[mG,beq_iff_eq]at hc
  subst hc
  exact wp_goto (hr _ G E a w h hp hw)
 |.dead,c,G₀,w₀,Q,Q',G,E,a,w,hc,hr,h,hp,hw=>(show False from hw).elim
 |.ret,c,G₀,w₀,Q,Q',G,E,a,w,hc,hr,h,hp,hw=>by
  cases c<;>first|(simp[mG]at hc;done)|skip
  exact wp_ret (hr _ G E a w h hp hw)
end
end Go.AB
end
section
namespace Go.AB
open Go
structure pG where
 t:Nat
 own:Bool
 cell:Option (Nat×Bool):=none
 deriving Inhabited
def X5(multi:Bool):Option (List AV)->AV
 |some cs=>rV multi cs
 |none=>.undef
def uK(E:St)(r:pG):AV:=match r.cell with
 |none=>bif r.own then look E.e r.t else view (look E.e r.t)
 |some (n,multi)=>X5 multi (rd E (look E.e r.t) n)
def oR(E:St)(res:List pG):List AV:=res.map (uK E)
def ke(P:Program):List ResultVar->List pG->Bool
 |[],[]=>true
 |.tmp t::r,i::s=>t==i.t&&i.cell.isNone&&(!i.own||s.all fun j=>!(j.own&&j.t==i.t))&&ke P r s
 |.cell t ty::r,i::s=>t==i.t&&!i.own&&(match i.cell with
  |some (n,multi)=>dm P ty n&&rU P ty multi&&(multi||n==1)
  |none=>false)&&ke P r s
 |_,_=>false
def tO:Nat->List AV->List (Nat×AV)
 |_,[]=>[]
 |i,a::r=>(i,view a)::tO (i+1) r
def start(args:List AV)(s:ab):St:={e:=tO 0 args,lp:=[],s:=s}
def Jb(cs:List AV):Bool:=cs.all dF
def SK(res:List pG)(Q:List AV->ab->Prop):Exit->St->Prop
 |.ret,E=>Jb (oR E res)=true/\Q (oR E res) E.s
 |.normal,E=>Jb (oR E res)=true/\Q (oR E res) E.s
 |_,_=>False
def aE(P:Program)(f:FuncId)(n:Nat)(res:List pG)(ic:IC):Bool:=match P.funcs[f]? with
 |some fn=>fn.ntmps==n&&ke P fn.results.toList res&&(match fn.body with
  |some c=>mG P n c ic
  |none=>false)
 |none=>false
section
variable{P:Program}{G G':Gh}{n:Nat}{D:List Deferred}{E:St}{a:Act}{w w':World}
theorem qO(i:Nat):∀(args:List AV)(k:Nat),look (tO k args) i=if k<=i then(match args[i -k]? with|some a=>view a|none=>.undef)else .undef
 |[],k=>by
  show AV.undef=_
  split<;>simp
 |a::r,k=>by
  show look ((k,view a)::tO (k+1) r) i=_
  rw[aQ,qO i r (k+1)]
  by_cases h:k=i
  ·subst h;simp
  ·by_cases h2:k<=i
   ·have h3:k+1<=i:=by omega
    have h4:i -k=(i -(k+1))+1:=by omega
    rw[if_neg h,if_pos h3,if_pos h2,h4,List.getElem?_cons_succ]
   ·rw[if_neg h,if_neg (by omega),if_neg h2]
theorem LU{args:List AV}{s:ab}{vs:Array Value}(hg:cw G w)(hs:aW G w s)(ha:mE w G.R args vs)(hv:Jb args=true)(hn:args.length<=n):
 Inv G n [] (start args s) {tmps:=vs++Array.replicate (n -vs.size) undef,defers:=[]} w:=by
 have hsz:vs.size=args.length:=ha.1
 refine⟨hg,hs,by simp;omega,fun i v hi=>?_,fun i hi=>?_,fun i t ht=>?_,rfl⟩
 ·show dt G w (tO 0 args) _ i (look (tO 0 args) i) v
  rw[qO,if_pos (Nat.zero_le _),Nat.sub_zero]
  cases hai:args[i]? with
  |none=>exact⟨.undef _,trivial⟩
  |some av=>
   have hlt:i<args.length:=(List.getElem?_eq_some_iff.1 hai).1
   have hvi:vs[i]? =some v:=by
    have hi':(vs++Array.replicate (n -vs.size) undef)[i]? =some v:=hi
    rw[Array.getElem?_append_left (by omega)]at hi'
    exact hi'
   have hV:dF av=true:=by
    have:=List.all_eq_true.1 hv
    exact this av (List.mem_of_getElem? hai)
   exact dt.BB hV (ha.2 i av v hai hvi)
 ·show look (tO 0 args) i=.undef
  rw[qO,if_pos (Nat.zero_le _),Nat.sub_zero,List.getElem?_eq_none (by omega)]
 ·have ht':bD (look (tO 0 args) i) t:=ht
  rw[qO,if_pos (Nat.zero_le _),Nat.sub_zero]at ht'
  cases hai:args[i]? with
  |none=>rw[hai]at ht';exact ht'.elim
  |some av=>
   rw[hai]at ht'
   have hV:dF av=true:=List.all_eq_true.1 hv av (List.mem_of_getElem? hai)
   exact(fc (l9 hV) t ht').elim
def LP:List pG->Nat->Nat->Option Nat
 |[],_,_=>none
 |r::s,k,i=>bif r.own&&r.t==i then some k else LP s (k+1) i
def HM(G:Gh)(res:List pG):c7->c7
 |.none=>.none
 |.frame=>.frame
 |.sh=>.sh
 |.slot i j=>(match j,LP res 0 i with
  |0,some k=>.res k
  |_,_=>.none)
 |.cell b j=>if G.O b=.sh then .cell b j else .none
 |_=>.none
theorem LQ:∀(vs:List ResultVar)(res:List pG),ke P vs res=true->vs.length=res.length
 |[],[],_=>rfl
 |v::vs,r::res,h=>by
  have:ke P vs res=true:=by cases v<;>simp only[ke,Bool.and_eq_true]at h<;>exact h.2
  simp[LQ vs res this]
 |[],_::_,h=>by simp[ke]at h
 |_::_,[],h=>by simp[ke]at h
theorem z7:∀(vs:List ResultVar)(res:List pG)(k j:Nat)(r:pG),ke P vs res=true->res[j]? =some r->r.own=true->LP res k r.t=some (k+j)
 |v::vs,r0::res,k,0,r,_,hj,ho=>by
  simp at hj;subst hj
  simp[LP,ho]
 |v::vs,r0::res,k,j+1,r,h,hj,ho=>by
  have hj':res[j]? =some r:=by simpa using hj
  have agT:ke P vs res=true:=by cases v<;>simp only[ke,Bool.and_eq_true]at h<;>exact h.2
  have hne:(r0.own&&r0.t==r.t)=false:=by
   cases hr0:r0.own with
   |false=>rfl
   |true=>
    cases v with
    |cell=>simp[ke,hr0]at h
    |tmp t=>
    simp only[ke,Bool.and_eq_true]at h
    have h1:=h.1.2
    rw[hr0]at h1
    have h1':∀x∈res,x.own=false\/¬x.t=r0.t:=by simpa using h1
    rcases h1' r (List.mem_of_getElem? hj')with e|e
    ·rw[ho]at e;cases e
    ·simpa using fun e'=>e e'.symm
  show(bif r0.own&&r0.t==r.t then some k else LP res (k+1) r.t)=_
  rw[hne]
  show LP res (k+1) r.t=_
  rw[z7 vs res (k+1) j r agT hj' ho]
  congr 1;omega
 |[],r0::res,_,_,_,h,_,_=>by simp[ke]at h
 |_,[],_,_,_,_,hj,_=>by simp at hj
theorem dt.ZR{G:Gh}{w:World}{e:List (Nat×AV)}{tmps:Array Value}{i:Nat}{a:AV}{v:Value}(h:dF a=true\/dF (view a)=true):dt G w e tmps i a v->(VR w G.R a v/\dx G w (.slot i 0) a v):=by cases a<;>simp_all [dF,view,dt]
def QK(vs:Array Value):Value:=if h:vs.size=1 then vs[0]else .tuple vs
theorem mapM_some{α β:Type}(f:α->Sem β)(w:World):∀(l:List α)(vs:List β),l.length=vs.length->(∀(j:Nat)(x:α)(v:β),l[j]? =some x->vs[j]? =some v->(f x).run P w=.ok v w)->(l.mapM f).run P w=.ok vs w
 |[],[],_,_=>by simp
 |x::l,v::vs,hl,h=>by
  rw[List.mapM_cons]
  simp[h 0 x v rfl rfl,mapM_some f w l vs (by simpa using hl) (fun j y z hy hz=>h (j+1) y z (by simpa using hy) (by simpa using hz))]
 |[],_::_,hl,_=>by simp at hl
 |_::_,[],hl,_=>by simp at hl
def CX(tmps:Array Value):ResultVar->Sem Value
 |.tmp t=>pure (tmps.getD t undef)
 |.cell a t=>do loadVar t (<-asAddr (tmps.getD a undef))
theorem QL{fn:Func}(tmps:Array Value)(w:World)(vs:List Value)(hl:fn.results.toList.length=vs.length)(h:∀(j:Nat)(x:ResultVar)(v:Value),fn.results.toList[j]? =some x->vs[j]? =some v->(CX tmps x).run P w=.ok v w):
 (results fn tmps).run P w=.ok (QK vs.toArray) w:=by
 have e:(fn.results.toList.mapM (CX tmps)).run P w=.ok vs w:=mapM_some _ w _ _ hl h
 unfold results
 rw[Array.mapM_eq_mapM_toList]
 have key:∀F:ResultVar->Sem Value,F=CX tmps->(do let vs<-List.toArray<$>fn.results.toList.mapM F;pure (if h:vs.size=1 then vs[0]else .tuple vs):Sem Value).run P w=.ok (QK vs.toArray) w:=by
  intro F hF
  subst hF
  simp only[Sem.run_bind,Sem.run_map,e,Result.andThen_ok]
  rfl
 exact key _ (by funext x;cases x<;>rfl)
theorem TT{fn:Func}{res:List pG}{Q:List AV->ab->Prop}{E':St}{a':Act}(si:ke P fn.results.toList res=true)(h:Inv G' n D E' a' w')(hp:aC G w G' w')(eH:Jb (oR E' res)=true)(hQ:Q (oR E' res) E'.s):
 ∃v,(results fn a'.tmps).run P w'=.ok v w'/\∃v' rs s' G'',Ending.returned v=.returned v'/\Q rs s'/\cw G'' w'/\aW G'' w' s'/\pH G'' w' rs v'/\aC G w G'' w':=by
 let G2:Gh:=⟨G'.R,fun b=>HM G' res (G'.O b)⟩
 have hV:∀(j:Nat)(r:pG),res[j]? =some r->dF (uK E' r)=true:=fun j r hj=>by
  refine List.all_eq_true.1 eH _ ?_
  exact List.mem_map.2 ⟨r,List.mem_of_getElem? hj,rfl⟩
 have hlen:=LQ _ _ si
 have get:∀(vs:List ResultVar)(rs:List pG),ke P vs rs=true->∀(j:Nat)(x:ResultVar)(r:pG),vs[j]? =some x->rs[j]? =some r->
  (x=.tmp r.t/\r.cell=none)\/∃ty n m,x=.cell r.t ty/\r.cell=some (n,m)/\r.own=false/\dm P ty n=true/\rU P ty m=true/\(m||n==1)=true:=by
  intro vs
  induction vs with
  |nil=>intro rs _ j x r hx;simp at hx
  |cons v vs ih=>
   intro rs hh j x r hx hr
   cases rs with
   |nil=>simp at hr
   |cons r0 rs=>
    cases j with
    |succ j=>
     refine ih rs ?_ j x r (by simpa using hx) (by simpa using hr)
     cases v<;>simp only[ke,Bool.and_eq_true]at hh<;>exact hh.2
    |zero=>
     simp at hx hr;subst hx;subst hr
     cases v with
     |tmp t=>
      simp only[ke,Bool.and_eq_true,beq_iff_eq]at hh
      exact .inl ⟨by rw[hh.1.1.1],by simpa using hh.1.1.2⟩
     |cell t ty=>
      simp only[ke,Bool.and_eq_true,beq_iff_eq]at hh
      obtain⟨⟨⟨h1,h2⟩,h3⟩,_⟩:=hh
      split at h3
      ·rename_i n m hc
       simp only[Bool.and_eq_true]at h3
       exact .inr ⟨ty,n,m,by rw[h1],hc,by simpa using h2,h3.1.1,h3.1.2,h3.2⟩
      ·cases h3
 have Cw:∀(j:Nat)(x:ResultVar)(r:pG),fn.results.toList[j]? =some x->res[j]? =some r->∃v,(CX a'.tmps x).run P w'=.ok v w'/\VR w' G2.R (uK E' r) v/\dx G2 w' (.res j) (uK E' r) v:=by
  intro j x r hx hj
  have hi:=hV j r hj
  have hlk:look E'.e r.t≠.undef:=by
   intro e
   unfold uK at hi
   rw[e]at hi
   cases hr:r.cell with
   |none=>
    rw[hr]at hi
    cases ho:r.own with
    |true=>rw[ho]at hi;cases hi
    |false=>rw[ho]at hi;cases hi
   |some nm=>rw[hr]at hi;obtain⟨n1,m1⟩:=nm;cases hi
  have hlt:r.t<a'.tmps.size:=by rw[h.size];exact h.Qi hlk
  rcases get _ _ si j x r hx hj with⟨rfl,dW⟩|⟨ty,n1,m1,rfl,dW,ho,hs1,ha1,h11⟩
  ·refine⟨a'.tmps.getD r.t undef,rfl,?_⟩
   have hi':dF (look E'.e r.t)=true\/dF (view (look E'.e r.t))=true:=by
    unfold uK at hi
    rw[dW]at hi
    cases hr:r.own with
    |true=>rw[hr]at hi;exact .inl hi
    |false=>rw[hr]at hi;exact .inr hi
   have hs:=h.cy r.t _ (ja hlt)
   replace hs:=dt.ZR hi' hs
   have he:a'.eval (.tmp r.t)=a'.tmps.getD r.t undef:=rfl
   rw[he]at hs
   unfold uK
   rw[dW]
   cases hr:r.own with
   |false=>exact⟨hs.1.view,dx.view ..⟩
   |true=>
    refine⟨hs.1,?_⟩
    have ho:=hs.2
    show dx G2 w' (.res j) (look E'.e r.t) _
    unfold dx at ho⊢
    split
    ·rename_i sz m cs hsl
     rw[hsl]at ho
     intro base m' cap hv hc
     obtain⟨b,off,c,e,fz,q1,q2,q3⟩:=ho base m' cap hv hc
     refine⟨b,off,c,e,fz,q1,?_,q3⟩
     show HM G' res (G'.O b)=.res j
     rw[q2]
     have:=z7 fn.results.toList res 0 j r si hj hr
     simp[HM,this]
    ·rename_i e m cs hsl
     rw[hsl]at ho
     intro base m' cap hv hc
     obtain⟨b,off,c,fz,q1,q2,q3⟩:=ho base m' cap hv hc
     refine⟨b,off,c,fz,q1,?_,q3⟩
     show HM G' res (G'.O b)=.res j
     rw[q2]
     have:=z7 fn.results.toList res 0 j r si hj hr
     simp[HM,this]
    ·trivial
  ·unfold uK at hi⊢
   rw[dW]at hi⊢
   have hb:BR G' w' E' a' (.t r.t) (look E'.e r.t) (a'.tmps.getD r.t undef):=by
    have:=BR.aR h (o:=.tmp r.t) (x:=.t r.t) (by simp[bP])
    have hun:xg true E' (.t r.t)=Ak true (look E'.e r.t):=rfl
    rw[hun]at this
    generalize look E'.e r.t=av at this hi
    cases av<;>first|exact this|(cases hi;done)|trivial
   have hi:dF (X5 m1 (rd E' (look E'.e r.t) n1))=true:=hi
   show∃v,_/\VR w' G2.R (X5 m1 (rd E' (look E'.e r.t) n1)) v/\dx G2 w' (.res j) (X5 m1 (rd E' (look E'.e r.t) n1)) v
   cases hrd:rd E' (look E'.e r.t) n1 with
   |none=>rw[hrd]at hi;cases hi
   |some cs=>
    obtain⟨b,off,e,hl,hat,hvw⟩:=H7 h hb hrd
    obtain⟨v,b9,hvr⟩:=rv hs1 ha1 h11 hl hat
    refine⟨v,?_,hvr,?_⟩
    ·show(do loadVar ty (<-asAddr (a'.tmps.getD r.t undef)):Sem Value).run P w'=_
     rw[e]
     simp[asAddr,b9]
    ·have PH:=I1 (multi:=m1) hvw
     show dx G2 w' (.res j) (rV m1 cs) v
     rw[<-PH];exact dx.view ..
 have agC:∃vs:List Value,fn.results.toList.length=vs.length/\∀(j:Nat)(x:ResultVar)(r:pG)(v:Value),fn.results.toList[j]? =some x->res[j]? =some r->vs[j]? =some v->(CX a'.tmps x).run P w'=.ok v w'/\VR w' G2.R (uK E' r) v/\dx G2 w' (.res j) (uK E' r) v:=by
  have hch:∀j:Fin fn.results.toList.length,∃v,∀(x:ResultVar)(r:pG),fn.results.toList[j.1]? =some x->res[j.1]? =some r->(CX a'.tmps x).run P w'=.ok v w'/\VR w' G2.R (uK E' r) v/\dx G2 w' (.res j.1) (uK E' r) v:=by
   intro j
   have hr:j.1<res.length:=by rw[<-hlen];exact j.2
   obtain⟨v,hv⟩:=Cw j.1 _ _ (List.getElem?_eq_getElem j.2) (List.getElem?_eq_getElem hr)
   refine⟨v,fun x r hx hr'=>?_⟩
   rw[List.getElem?_eq_getElem j.2]at hx
   rw[List.getElem?_eq_getElem hr]at hr'
   injection hx with hx;injection hr' with hr'
   subst hx;subst hr'
   exact hv
  refine⟨List.ofFn fun j=>(hch j).choose,by simp,fun j x r v hx hr hv=>?_⟩
  have hj:j<fn.results.toList.length:=(List.getElem?_eq_some_iff.1 hx).1
  have:=(hch ⟨j,hj⟩).choose_spec x r hx hr
  simp only[List.getElem?_ofFn,hj,dite_true]at hv
  injection hv with hv
  rw[hv]at this
  exact this
 obtain⟨vs,hvl,hvs⟩:=agC
 refine⟨_,QL a'.tmps w' vs hvl (fun j x v hx hv=>by
  have hj:j<res.length:=by rw[<-hlen];exact(List.getElem?_eq_some_iff.1 hx).1
  exact(hvs j x _ v hx (List.getElem?_eq_getElem hj) hv).1),?_⟩
 have vm:∀(j:Nat)(r:pG)(v:Value),res[j]? =some r->vs[j]? =some v->VR w' G2.R (uK E' r) v/\dx G2 w' (.res j) (uK E' r) v:=by
  intro j r v hr hv
  have hj:j<fn.results.toList.length:=by rw[hvl];exact(List.getElem?_eq_some_iff.1 hv).1
  exact(hvs j _ r v (List.getElem?_eq_getElem hj) hr hv).2
 have akC:vs.length=res.length:=by rw[<-hvl,hlen]
 refine⟨_,oR E' res,E'.s,G2,rfl,hQ,⟨fun b hb=>?_,h.aV.kU⟩,?_,?_,?_⟩
 ·show HM G' res (G'.O b)=.none
  rw[h.aV.kS b hb];rfl
 ·refine h.store.Ea (fun _ _ hv=>hv) (fun b hb=>⟨?_,rfl,rfl⟩) (fun b c j hb hc=>⟨?_,rfl,rfl⟩)
  ·show HM G' res (G'.O b)=.sh
   rw[hb];rfl
  ·show HM G' res (G'.O c)=.cell b j
   rw[hc];simp[HM,hb]
 ·match res,vs,akC,vm with
  |[],[],_,_=>exact⟨#[],rfl,rfl,fun j x y hx=>by simp[oR]at hx⟩
  |[r],[v],_,vm=>
   have h1:=vm 0 r v rfl rfl
   have h2:=hV 0 r rfl
   show X4 G2 w' (uK E' r) v
   generalize uK E' r=av at h1 h2
   cases av<;>first|exact h1|cases h2
  |r1::r2::rr,v1::v2::vv,hl2,vm=>
   refine⟨_,rfl,by simpa[oR]using hl2,fun j x y hx hy=>?_⟩
   have hx':((r1::r2::rr).map (uK E'))[j]? =some x:=hx
   rw[List.getElem?_map]at hx'
   cases hj:(r1::r2::rr)[j]? with
   |none=>rw[hj]at hx';cases hx'
   |some r=>
    rw[hj]at hx'
    injection hx' with hx'
    have hy':(v1::v2::vv)[j]? =some y:=by simpa using hy
    subst hx'
    exact vm j r y hj hy'
 ·refine⟨hp.os,hp.tape,hp.output,hp.drawn,hp.size,hp.mono,hp.oH,hp.frame,fun b hb ho=>?_,fun b hb ho=>?_⟩
  ·obtain⟨e1,e2⟩:=hp.kD b hb ho
   exact⟨by show HM G' res (G'.O b)=_;rw[e1];rfl,e2⟩
  ·obtain⟨e1,e2⟩:=hp.qP b hb ho
   exact⟨by show HM G' res (G'.O b)=_;rw[e1];rfl,e2⟩
theorem FN.of{f:FuncId}{res:List pG}{ic:IC}{args:List AV}{s:ab}{Q:List AV->ab->Prop}(hD:FG P n)(hf:aE P f n res ic=true)(hv:Jb args=true)(hn:args.length<=n)
 (hw:iU P ic (SK res Q) (start args s)):FN P f args s Q:=by
 intro G w vs hg ho hs ha
 unfold aE at hf
 split at hf<;>try(cases hf;done)
 rename_i fn hfn
 simp only[Bool.and_eq_true,beq_iff_eq]at hf
 obtain⟨⟨rfl,si⟩,hf⟩:=hf
 split at hf<;>try(cases hf;done)
 rename_i c hb
 refine calls_of_wp hfn hb (dn hD ic c G w (SK res Q) _ G _ _ w hf ?_ (LU hg hs ha hv hn) (aC.refl G w) hw)
 intro x G' E' a' w' h hp hq
 have fin:Jb (oR E' res)=true/\Q (oR E' res) E'.s->a'.defers=[]/\∃v,(results fn a'.tmps).run P w'=.ok v w'/\∃v' rs s' G'',Ending.returned v=.returned v'/\Q rs s'/\cw G'' w'/\aW G'' w' s'/\pH G'' w' rs v'/\aC G w G'' w':=by
  intro hq
  obtain⟨eH,hQ⟩:=hq
  exact⟨h.uE,TT si h hp eH hQ⟩
 cases x with
 |ret=>exact fin hq
 |normal=>exact fin hq
 |_=>exact hq.elim
end
end Go.AB
end
section
namespace Go.AB
open Go
theorem gn{f f':IX->AV}:∀(xs:List IX),(∀x∈xs,f x=f' x)->b7 f xs=b7 f' xs
 |[],_=>rfl
 |x::xs,h=>by
  show Ue (f x) (b7 f xs)=Ue (f' x) (b7 f' xs)
  rw[h x List.mem_cons_self,gn xs fun y hy=>h y (List.mem_cons_of_mem _ hy)]
theorem zt{f f':IX->AV}:∀(ps:List (Nat×Nat×IX))(cs:List AV),(∀x∈ps.map (fun p=>p.2.2),f x=f' x)->fill f cs ps=fill f' cs ps
 |[],_,_=>rfl
 |(off,n,x)::ps,cs,h=>by
  have h1:f x=f' x:=h x (by simp)
  have ih:∀cs,fill f cs ps=fill f' cs ps:=fun cs=>zt ps cs fun y hy=>h y (by simp only[List.map_cons,List.mem_cons];exact .inr hy)
  unfold fill
  rw[h1]
  simp only[ih]
theorem mW{f f':IX->AV}(o:Option IX)(d:Int)(h:∀x∈oX o,f x=f' x):I4 f o d=I4 f' o d:=by
 cases o with
 |none=>rfl
 |some x=>simp only[I4,h x (by simp[oX])]
theorem XP{o:uC}{f f':IX->AV}{E E':St}(h:∀x∈dv o,f x=f' x)(hx:∀x∈dv o,E.x x=E'.x x)(hs:E.s=E'.s)(hrd:∀x∈dv o,∀n,rd E (f x) n=rd E' (f x) n):pv o f E=pv o f' E':=by
 cases o<;>(try rfl)
 case ib tr x=>cases tr<;>first|rfl|(show UX (f x)=UX (f' x);rw[h x (by simp[dv])])
 case pick c x y=>show LL (E.x x) (E.x y) (f c)=LL (E'.x x) (E'.x y) (f' c);rw[h c (by simp[dv]),hx x (by simp[dv]),hx y (by simp[dv])]
 case build z ps=>show FY (fill f z ps)=FY (fill f' z ps);rw[zt ps z h]
 case load n m x=>show oQ m (rd E (f x) n)=oQ m (rd E' (f' x) n);rw[hrd x (by simp[dv]),h x (by simp[dv])]
 case mM k x=>show CR k E.s (f x)=CR k E'.s (f' x);rw[h x (by simp[dv]),hs]
 case bw z m x=>show Lv z m E.s (f x)=Lv z m E'.s (f' x);rw[h x (by simp[dv]),hs]
 case fF x=>show tf (f x)=tf (f' x);rw[h x (by simp[dv])]
 case nilCheck x=>show na (f x)=na (f' x);rw[h x (by simp[dv])]
 case bin b x y=>show Rq b (f x) (f y)=Rq b (f' x) (f' y);rw[h x (by simp[dv]),h y (by simp[dv])]
 case VA b x y=>show RP b (f x) (f y)=RP b (f' x) (f' y);rw[h x (by simp[dv]),h y (by simp[dv])]
 case Pq b x y=>show Pr b (f x) (f y)=Pr b (f' x) (f' y);rw[h x (by simp[dv]),h y (by simp[dv])]
 case un u x=>show unV u (f x)=unV u (f' x);rw[h x (by simp[dv])]
 case ot k x=>show xp k (f x)=xp k (f' x);rw[h x (by simp[dv])]
 case jh x i=>show xJ (f x) (f i)=xJ (f' x) (f' i);rw[h x (by simp[dv]),h i (by simp[dv])]
 case fieldAddr off x=>show gF off x (f x)=gF off x (f' x);rw[h x (by simp[dv])]
 case indexAddr sz x i=>show kG sz (f x) (f i)=kG sz (f' x) (f' i);rw[h x (by simp[dv]),h i (by simp[dv])]
 case slice sz x lo hi mx=>
  cases mx with
  |some m=>
   have e1:=mW (f:=f) (f':=f') lo 0 fun y hy=>h y (by simp[dv,hy])
   have e2:=mW (f:=f) (f':=f') hi 0 fun y hy=>h y (by simp[dv,hy])
   have e3:=mW (f:=f) (f':=f') (some m) 0 fun y hy=>h y (by simp[dv,hy])
   show qW sz f lo hi m (f x)=qW sz f' lo hi m (f' x)
   rw[h x (by simp[dv])]
   unfold qW
   simp only[e1,e2,e3]
  |none=>
   have e1:=mW (f:=f) (f':=f') lo 0 fun y hy=>h y (by simp[dv,hy])
   have e2:=fun d=>mW (f:=f) (f':=f') hi d fun y hy=>h y (by simp[dv,hy])
   show wS sz f lo hi (f x)=wS sz f' lo hi (f' x)
   rw[h x (by simp[dv])]
   unfold wS
   simp only[e1,e2]
 case rL x lo hi=>
  have e1:=mW (f:=f) (f':=f') lo 0 fun y hy=>h y (by simp[dv,hy])
  have e2:=fun d=>mW (f:=f) (f':=f') hi d fun y hy=>h y (by simp[dv,hy])
  show nk f lo hi (f x)=nk f' lo hi (f' x)
  rw[h x (by simp[dv])]
  unfold nk
  simp only[e1,e2]
 case Zf b x=>show Po b (f x)=Po b (f' x);rw[h x (by simp[dv])]
 case cap x=>show Rx (f x)=Rx (f' x);rw[h x (by simp[dv])]
 case extract x k=>show rY k (f x)=rY k (f' x);rw[h x (by simp[dv])]
 case len c x=>show ER E.s c (f x)=ER E'.s c (f' x);rw[h x (by simp[dv]),hs]
 case gb m xs=>
  show xA m (xs.map f)=xA m (xs.map f')
  rw[show xs.map f=xs.map f' from List.map_congr_left h]
 case kL fi xs ys=>
  show xy fi (b7 f xs) (b7 f ys)=xy fi (b7 f' xs) (b7 f' ys)
  rw[gn xs fun x hx=>h x (by simp[dv,hx]),gn ys fun x hx=>h x (by simp[dv,hx])]
def dr(o:ai)(E:St):St:=match o.op with
 |.ib true x=>E.drain x
 |_=>E
def step(E:St)(o:ai)(v:AV):St:=(bU (dr o E) v o.dst).put o.dst v
theorem We{o:ai}{E:St}(h:qv o E≠.no):dr o E=E:=by
 obtain⟨d,op,g⟩:=o
 unfold dr
 split
 ·rename_i x hop
  simp only at hop
  subst hop
  refine absurd ?_ h
  cases g with
  |none=>rfl
  |some tw=>
   obtain⟨t,want⟩:=tw
   show Qy (.ib true x) want E (look E.e t)=.no
   unfold Qy
   split<;>rfl
 ·rfl
inductive Y(P:Program)(E:St):ai->AV->Prop where
 |pure (o:ai) (v:AV) (h:(qv o E=.dI v\/∃c,qv o E=.prt c v/\c)):Y P E o v
 |ib (d:Option Nat) (x:IX) (h:dF (E.x x)=true):Y P E ⟨d,.ib true x,none⟩ (E.x x)
 |call (d:Option Nat) (f:Nat) (args:List IX) (as rs:List AV) (h1:b7 (xg true E) args=some as) (h2:j7 rs=true) (h3:FE P f as E.s rs E.s):Y P E ⟨d,.call f args,none⟩ (fD rs)
 |O4 (d:Option Nat) (f:Nat) (args:List IX) (t:Nat) (want g0 b:Bool) (rs:List AV) (h0:Wz (look E.e t)=some (g0,b)) (h2:j7 rs=true)
   (h1:(g0&&(b==want))=true->∃as,b7 (xg true E) args=some as/\FE P f as E.s rs E.s):Y P E ⟨d,.call f args,some (t,want)⟩ (.when (g0&&(b==want)) (fD rs))
 |cG (d:Option Nat) (x:IX) (args:List IX) (f:Nat) (as rs:List AV) (h1:callee x args true E f as) (hf:pR P f=true) (h2:j7 rs=true) (h3:FE P f as E.s rs E.s):Y P E ⟨d,.cG x args,none⟩ (fD rs)
 |F8 (d:Option Nat) (x:IX) (args:List IX) (t:Nat) (want g0 b:Bool) (rs:List AV) (h0:Wz (look E.e t)=some (g0,b)) (h2:j7 rs=true)
   (h1:(g0&&(b==want))=true->∃f as,callee x args true E f as/\pR P f=true/\FE P f as E.s rs E.s):Y P E ⟨d,.cG x args,some (t,want)⟩ (.when (g0&&(b==want)) (fD rs))
 |eff (o:ai) (v:AV) (h:(Ed o E=.dI v\/∃c,Ed o E=.prt c v/\c)):Y P E o v
theorem ad4{o:uC}{want:Bool}{E:St}{a:AV}:(∃g b,Wz a=some (g,b)/\Qy o want E a=VE (rdO o) (g&&(b==want)) (pv o (xg (g&&(b==want)) E) E))\/Qy o want E a=.no:=by
 unfold Qy
 split
 ·exact .inl ⟨_,_,rfl,rfl⟩
 ·exact .inl ⟨_,_,rfl,rfl⟩
 ·exact .inr rfl
theorem XW{o:uC}{want:Bool}{E:St}{a:AV}:(∃g b,Wz a=some (g,b)/\Rk o want E a=Re (g&&(b==want)) (qe (xg (g&&(b==want)) E) E.s o))\/Rk o want E a=.no:=by
 unfold Rk
 split
 ·exact .inl ⟨_,_,rfl,rfl⟩
 ·exact .inl ⟨_,_,rfl,rfl⟩
 ·exact .inr rfl
theorem Fs{P:Program}{o:uC}{d:Option Nat}{t:Nat}{want:Bool}{E:St}{K:St->Prop}{a:AV}{g b:Bool}(h:Wz a=some (g,b)):Cs P o d t want E K a=VC P (g&&(b==want)) o E d K (pv o (xg (g&&(b==want)) E) E):=by
 unfold Wz at h
 split at h
 ·injection h with h;injection h with h1 h2;subst h1;subst h2;rfl
 ·injection h with h;injection h with h1 h2;subst h1;subst h2;rfl
 ·cases h
theorem BK{v:AV}(h:z6 v=true):bq v=true/\(∀t,¬bD v t)/\(∀U d,bU U v d=U):=by cases v<;>first|(simp[z6,dF]at h;done)|exact⟨rfl,fun t h=>h,fun U d=>by cases d<;>rfl⟩
theorem HX{f:IX->AV}{s:ab}{o:uC}{v:AV}(h:qe f s o=.dI v\/∃c,qe f s o=.prt c v):z6 v=true/\(∀g U,pv o g U=.no)/\(∀x,o≠.ib true x):=by
 have tt:∀{r:PR}{u:AV},r=.dI u->(r=.dI v\/∃c,r=.prt c v)->v=u:=by
  intro r u hr h
  subst hr
  rcases h with h|⟨c,h⟩
  ·injection h with h;exact h.symm
  ·cases h
 have tp:∀{r:PR}{u:AV}{c:Prop},r=.prt c u->(r=.dI v\/∃c,r=.prt c v)->v=u:=by
  intro r u c hr h
  subst hr
  rcases h with h|⟨c',h⟩
  ·cases h
  ·injection h with _ h;exact h.symm
 have tn:∀{r:PR},r=.no->¬(r=.dI v\/∃c,r=.prt c v):=by
  intro r hr h
  subst hr
  rcases h with h|⟨c',h⟩<;>cases h
 have ok:∀(k:Bool)(a:AV)(b:Bool),(k=false->dF a=true)->z6 (I5 k a b)=true:=by
  intro k a b ha
  cases k with
  |true=>rfl
  |false=>show z6 a=true;have:=ha rfl;cases a<;>first|exact this|rfl
 unfold qe at h
 split at h
 ·rename_i x
  refine⟨?_,fun g U=>rfl,fun x h=>by cases h⟩
  cases hx:f x<;>rw[hx]at h<;>first|(exact absurd h (tn rfl))|(rw[tt rfl h];rfl)
 ·rename_i sz n z ps
  refine⟨?_,fun g U=>rfl,fun x h=>by cases h⟩
  cases hx:fill f z ps<;>rw[hx]at h
  ·exact absurd h (tn rfl)
  ·rw[tp rfl h];rfl
 ·rename_i kk zero k x ky
  refine⟨?_,fun g U=>rfl,fun x h=>by cases h⟩
  have ck:∀{c:Prop}{a:AV}{b:Bool},(O6 k c (I5 k a b)=.dI v\/∃c',O6 k c (I5 k a b)=.prt c' v)->z6 v=true:=by
   intro c a b h
   unfold O6 at h
   cases hp:zZ k (I5 k a b)with
   |false=>rw[hp]at h;exact absurd h (tn rfl)
   |true=>
    rw[hp]at h
    rw[tp rfl h]
    refine ok k a b fun hk=>?_
    subst hk;exact hp
  have ck':∀{c:Prop}{o:Option AV},(O6 k c (wB zero k o)=.dI v\/∃c',O6 k c (wB zero k o)=.prt c' v)->z6 v=true:=by
   intro c o h
   cases o with
   |none=>exact ck h
   |some a=>exact ck h
  unfold jr at h
  split at h
  ·unfold pd at h
   split at h
   ·exact ck' h
   ·exact absurd h (tn rfl)
  ·exact ck h
  ·exact absurd h (tn rfl)
 ·rename_i x
  refine⟨?_,fun g U=>rfl,fun x h=>by cases h⟩
  unfold E2 at h
  split at h
  ·rw[tt rfl h];rfl
  ·exact absurd h (tn rfl)
 ·rename_i x
  refine⟨?_,fun g U=>rfl,fun x h=>by cases h⟩
  unfold Dq at h
  split at h
  ·rw[tt rfl h];rfl
  ·exact absurd h (tn rfl)
 ·exact absurd h (tn rfl)
theorem XX{o:ai}{E:St}{v:AV}(h:Ed o E=.dI v\/∃c,Ed o E=.prt c v/\c):
 bq v=true/\(∀t,¬bD v t)/\(∀U d,bU U v d=U)/\dr o E=E:=by
 obtain⟨d,op,g⟩:=o
 have hdr:(∀x,op≠.ib true x)->dr ⟨d,op,g⟩ E=E:=by
  intro h
  unfold dr
  split
  ·rename_i x hx;exact absurd hx (h x)
  ·rfl
 have wk:∀{r:PR},(r=.dI v\/∃c,r=.prt c v/\c)->(r=.dI v\/∃c,r=.prt c v):=fun h=>h.imp id fun⟨c,h,_⟩=>⟨c,h⟩
 cases g with
 |none=>
  have h':qe (xg true E) E.s op=.dI v\/∃c,qe (xg true E) E.s op=.prt c v:=wk h
  obtain⟨h1,_,h3⟩:=HX h'
  obtain⟨f1,f2,f3⟩:=BK h1
  exact⟨f1,f2,f3,hdr h3⟩
 |some tw=>
  obtain⟨t,want⟩:=tw
  have h':Rk op want E (look E.e t)=.dI v\/∃c,Rk op want E (look E.e t)=.prt c v:=wk h
  rcases XW (o:=op) (want:=want) (E:=E) (a:=look E.e t)with⟨g0,b,hg0,hl⟩|hl<;>rw[hl]at h'
  case inr=>rcases h' with h'|⟨c,h'⟩<;>cases h'
  generalize(g0&&(b==want))=gg at h'
  have h2:Re gg (qe (xg gg E) E.s op)=.dI v\/∃c,Re gg (qe (xg gg E) E.s op)=.prt c v:=h'
  have:∃u,v=.when gg u/\(qe (xg gg E) E.s op=.dI u\/∃c,qe (xg gg E) E.s op=.prt c u):=by
   cases hq:qe (xg gg E) E.s op with
   |dI u=>
    rw[hq]at h2
    refine⟨u,?_,.inl rfl⟩
    rcases h2 with h2|⟨c,h2⟩
    ·injection h2 with h2;exact h2.symm
    ·cases h2
   |prt c u=>
    rw[hq]at h2
    refine⟨u,?_,.inr ⟨c,rfl⟩⟩
    rcases h2 with h2|⟨c,h2⟩
    ·cases h2
    ·injection h2 with _ h2;exact h2.symm
   |no=>rw[hq]at h2;rcases h2 with h2|⟨c,h2⟩<;>cases h2
  obtain⟨u,rfl,hu⟩:=this
  obtain⟨h1,_,h3⟩:=HX hu
  obtain⟨f1,f2,f3⟩:=BK h1
  exact⟨rfl,fun t ht=>f2 t ht,fun U d=>f3 U d,hdr h3⟩
section
variable{P:Program}{G G':Gh}{n:Nat}{D:List Deferred}{E E':St}{a:Act}{w w':World}
theorem qT{rs:List AV}(h:j7 rs=true)(E:St)(d:Option Nat):bU E (fD rs) d=E:=by
 match rs,h with
 |[],_=>cases d<;>rfl
 |[r],h=>
  show bU E r d=E
  cases r<;>first|(cases d<;>rfl)|(simp[j7,dF,Xa]at h)
 |_::_::_,_=>cases d<;>rfl
theorem PL{r:AV}(hr:dF r=true)(E:St)(d:Option Nat):bU E r d=E:=by cases r<;>first|(cases d<;>rfl)|(simp[dF]at hr)
theorem qU{rs:List AV}(h:j7 rs=true):bq (fD rs)=true:=by
 match rs,h with
 |[],_=>rfl
 |[r],h=>
  show bq r=true
  cases r<;>first|rfl|(simp[j7,dF,Xa]at h)
 |_::_::_,_=>rfl
theorem SH{o:ai}{K:St->Prop}(h:q1 P o E K):∃v,bq v=true/\Y P E o v/\K (step E o v):=by
 have gen:qK E o.dst K (qv o E)->∃v,bq v=true/\Y P E o v/\K (step E o v):=by
  intro hq
  cases hv:qv o E with
  |dI v=>rw[hv]at hq;exact⟨v,hq.1,.pure o v (.inl hv),by unfold step;rw[We (by rw[hv];simp)];exact hq.2⟩
  |prt c v=>rw[hv]at hq;exact⟨v,hq.2.1,.pure o v (.inr ⟨c,hv,hq.1⟩),by unfold step;rw[We (by rw[hv];simp)];exact hq.2.2⟩
  |no=>rw[hv]at hq;exact hq.elim
 have Ww:∀{o:ai},qK E o.dst K (Ed o E)->∃v,bq v=true/\Y P E o v/\K (step E o v):=by
  intro o hq
  cases hv:Ed o E with
  |dI v=>rw[hv]at hq;exact⟨v,hq.1,.eff o v (.inl hv),by unfold step;rw[(XX (.inl hv)).2.2.2];exact hq.2⟩
  |prt c v=>rw[hv]at hq;exact⟨v,hq.2.1,.eff o v (.inr ⟨c,hv,hq.1⟩),by unfold step;rw[(XX (.inr ⟨c,hv,hq.1⟩)).2.2.2];exact hq.2.2⟩
  |no=>rw[hv]at hq;exact hq.elim
 unfold q1 at h
 split at h
 ·rename_i d f args
  cases ha:b7 (xg true E) args with
  |none=>rw[ha]at h;exact h.elim
  |some as=>
   rw[ha]at h
   obtain⟨rs,h2,h3,h4⟩:=h
   refine⟨_,qU h2,.call d f args as rs ha h2 h3,?_⟩
   show K ((bU E (fD rs) d).put d (fD rs))
   rw[qT h2];exact h4
 ·rename_i d x
  obtain⟨h1,h2⟩:=h
  refine⟨_,?_,.ib d x h1,?_⟩
  ·generalize E.x x=av at h1
   cases av<;>first|rfl|(simp[dF]at h1)
  ·show K ((bU (E.drain x) (E.x x) d).put d (E.x x))
   rw[PL h1];exact h2
 ·rename_i d f args t want
  have h:∃g0 b,Wz (look E.e t)=some (g0,b)/\∃rs,j7 rs=true/\((g0&&(b==want))=true->∃as,b7 (xg (g0&&(b==want)) E) args=some as/\FE P f as E.s rs E.s)/\K (E.put d (.when (g0&&(b==want)) (fD rs))):=by
   unfold HW at h
   split at h
   ·rename_i b hl;exact⟨true,b,by rw[hl];rfl,h⟩
   ·rename_i g b hl;exact⟨g,b,by rw[hl];rfl,h⟩
   ·exact h.elim
  obtain⟨g0,b,hl,rs,h2,h3,h4⟩:=h
  refine⟨_,rfl,.O4 d f args t want g0 b rs hl h2 (fun hb=>by
   obtain⟨as,q1,q2⟩:=h3 hb
   rw[hb]at q1
   exact⟨as,q1,q2⟩),?_⟩
  have:bU E (.when (g0&&(b==want)) (fD rs)) d=E:=qT h2 E d
  show K ((bU E (.when (g0&&(b==want)) (fD rs)) d).put d (.when (g0&&(b==want)) (fD rs)))
  rw[this];exact h4
 ·rename_i d x args
  cases hx:xg true E x<;>rw[hx]at h<;>try exact h.elim
  rename_i f first eG
  cases ha:b7 (xg true E) args with
  |none=>rw[ha]at h;exact h.elim
  |some as=>
   rw[ha]at h
   obtain⟨hf,rs,h2,h3,h4⟩:=h
   refine⟨_,qU h2,.cG d x args f _ rs ⟨first,eG,as,hx,ha,rfl⟩ hf h2 h3,?_⟩
   show K ((bU E (fD rs) d).put d (fD rs))
   rw[qT h2];exact h4
 ·rename_i d x args t want
  have h:∃g0 b,Wz (look E.e t)=some (g0,b)/\∃rs,j7 rs=true/\((g0&&(b==want))=true->∃f as,callee x args (g0&&(b==want)) E f as/\pR P f=true/\FE P f as E.s rs E.s)/\K (E.put d (.when (g0&&(b==want)) (fD rs))):=by
   unfold Fy at h
   split at h
   ·rename_i b hl;exact⟨true,b,by rw[hl];rfl,h⟩
   ·rename_i g b hl;exact⟨g,b,by rw[hl];rfl,h⟩
   ·exact h.elim
  obtain⟨g0,b,hl,rs,h2,h3,h4⟩:=h
  refine⟨_,rfl,.F8 d x args t want g0 b rs hl h2 (fun hb=>by
   obtain⟨f,as,q1,q2⟩:=h3 hb
   rw[hb]at q1
   exact⟨f,as,q1,q2⟩),?_⟩
  have:bU E (.when (g0&&(b==want)) (fD rs)) d=E:=qT h2 E d
  show K ((bU E (.when (g0&&(b==want)) (fD rs)) d).put d (.when (g0&&(b==want)) (fD rs)))
  rw[this];exact h4
 ·exact Ww h
 ·exact Ww h
 ·exact Ww h
 ·exact Ww h
 ·exact Ww h
 ·exact gen h
end
end Go.AB
end
section
namespace Go.AB
open Go
theorem il{i:Nat}:∀{l:List IX},IX.t i∈l->i∈Ft l
 |.t j::r,h=>by
  rcases List.mem_cons.1 h with h|h
  ·injection h with h;subst h;exact List.mem_cons_self
  ·exact List.mem_cons_of_mem _ (il h)
 |.c a::r,h=>by
  rcases List.mem_cons.1 h with h|h
  ·cases h
  ·exact il (l:=r) h
section
variable{P:Program}{G G':Gh}{n:Nat}{D:List Deferred}{E E':St}{a:Act}{w w':World}
structure OQ(o:ai)(E E':St):Prop where
 xs:∀x∈dv o.op,E.x x=E'.x x
 g:∀t want,o.g=some (t,want)->look E.e t=look E'.e t
 s:E.s=E'.s
 rd:∀x∈dv o.op,∀g n,rd E (AB.xg g E x) n=rd E' (AB.xg g E x) n
theorem OQ.symm{o:ai}(h:OQ o E E'):OQ o E' E:=⟨fun x hx=>(h.xs x hx).symm,fun t w hg=>(h.g t w hg).symm,h.s.symm,fun x hx g n=>by
 have e:AB.xg g E' x=AB.xg g E x:=by unfold AB.xg;rw[h.xs x hx]
 rw[e];exact(h.rd x hx g n).symm⟩
theorem OQ.xg{o:ai}(h:OQ o E E')(g:Bool):∀x∈dv o.op,xg g E x=xg g E' x:=fun x hx=>by unfold AB.xg;rw[h.xs x hx]
theorem OQ.qv{o:ai}(h:OQ o E E'):qv o E=qv o E':=by
 have hp:∀g,pv o.op (AB.xg g E) E=pv o.op (AB.xg g E') E':=fun g=>XP (h.xg g) h.xs h.s fun x hx n=>h.rd x hx g n
 unfold AB.qv
 cases hg:o.g with
 |none=>exact hp true
 |some tw=>
  obtain⟨t,want⟩:=tw
  show Qy o.op want E (look E.e t)=Qy o.op want E' (look E'.e t)
  rw[h.g t want hg]
  unfold Qy
  split
  ·rw[hp]
  ·rw[hp]
  ·rfl
theorem OQ.qe{o:ai}(h:OQ o E E')(g:Bool):qe (AB.xg g E) E.s o.op=qe (AB.xg g E') E'.s o.op:=by
 have hx:=h.xg g
 have hs:=h.s
 obtain⟨d,op,gg⟩:=o
 cases op<;>first|rfl|skip
 case gS x=>show xm (AB.xg g E x)=xm (AB.xg g E' x);rw[hx x (by simp[dv])]
 case aN sz n z ps=>show ID sz n (fill (AB.xg g E) z ps)=ID sz n (fill (AB.xg g E') z ps);rw[zt ps z hx]
 case lookup kk z ok x k=>show jr kk z ok E.s (AB.xg g E k) (AB.xg g E x)=jr kk z ok E'.s (AB.xg g E' k) (AB.xg g E' x);rw[hx x (by simp[dv]),hx k (by simp[dv]),hs]
 case sH x=>show Dq (AB.xg g E x)=Dq (AB.xg g E' x);rw[hx x (by simp[dv])]
 case kz x=>show E2 (AB.xg g E x)=E2 (AB.xg g E' x);rw[hx x (by simp[dv])]
theorem OQ.Ed{o:ai}(h:OQ o E E'):Ed o E=Ed o E':=by
 unfold AB.Ed
 cases hg:o.g with
 |none=>exact h.qe true
 |some tw=>
  obtain⟨t,want⟩:=tw
  show Rk o.op want E (look E.e t)=Rk o.op want E' (look E'.e t)
  rw[h.g t want hg]
  unfold Rk
  split
  ·rw[h.qe]
  ·rw[h.qe]
  ·rfl
theorem Y.Tb{o:ai}{v:AV}(hy:Y P E o v)(h:OQ o E E'):Y P E' o v:=by
 cases hy with
 |pure _ _ hq=>exact .pure o v (by rw[<-h.qv];exact hq)
 |ib d x hi=>
  have hx:E.x x=E'.x x:=h.xs x (by simp[dv])
  rw[hx]at hi⊢
  exact .ib d x hi
 |call d f args as rs h1 h2 h3=>exact .call d f args as rs (by rw[<-gn args (h.xg true)];exact h1) h2 (by rw[<-h.s];exact h3)
 |O4 d f args t want g0 b rs h0 h2 h1=>
  refine .O4 d f args t want g0 b rs (by rw[<-h.g t want rfl];exact h0) h2 fun hb=>?_
  obtain⟨as,q1,q2⟩:=h1 hb
  exact⟨as,by rw[<-gn args (h.xg true)];exact q1,by rw[<-h.s];exact q2⟩
 |cG d x args f as rs h1 hf h2 h3=>
  obtain⟨first,eG,xs,q1,q2,q3⟩:=h1
  exact .cG d x args f as rs ⟨first,eG,xs,by rw[<-h.xg true x List.mem_cons_self];exact q1,by rw[<-gn args fun y hy=>h.xg true y (List.mem_cons_of_mem _ hy)];exact q2,q3⟩ hf h2 (by rw[<-h.s];exact h3)
 |F8 d x args t want g0 b rs h0 h2 h1=>
  refine .F8 d x args t want g0 b rs (by rw[<-h.g t want rfl];exact h0) h2 fun hb=>?_
  obtain⟨f,as,⟨first,eG,xs,q1,q2,q3⟩,q4,q5⟩:=h1 hb
  exact⟨f,as,⟨first,eG,xs,by rw[<-h.xg true x List.mem_cons_self];exact q1,by rw[<-gn args fun y hy=>h.xg true y (List.mem_cons_of_mem _ hy)];exact q2,q3⟩,q4,by rw[<-h.s];exact q5⟩
 |eff _ _ hq=>exact .eff o v (by rw[<-h.Ed];exact hq)
theorem ZG(o:ai)(i:Nat):look (dr o E).e i=if iD o i=true then view (look E.e i)else look E.e i:=by
 unfold dr iD
 split
 ·rename_i x hop
  cases x with
  |c a=>simp only[hop];rfl
  |t j=>
   simp only[hop]
   show look ((j,view (look E.e j))::E.e) i=_
   rw[aQ]
   by_cases hj:j=i
   ·subst hj;simp
   ·simp[hj]
 ·rename_i hop
  split
  ·rename_i j akr
   exact absurd akr (hop (.t j))
  ·simp
theorem jc(o:ai)(v:AV)(i:Nat):look (step E o v).e i=if o.dst=some i then v else if iD o i=true then view (look E.e i)else look E.e i:=by
 unfold step
 rw[<-ZG]
 cases hd:o.dst with
 |none=>simp[St.put,(jD (dr o E) v none).1]
 |some d=>
  show look ((d,v)::(bU (dr o E) v (some d)).e) i=_
  rw[aQ,(jD (dr o E) v (some d)).1]
  simp
theorem agt(o:ai):(dr o E).s=E.s/\(dr o E).lp=E.lp:=by
 unfold dr
 split
 ·rename_i x _
  cases x<;>exact⟨rfl,rfl⟩
 ·exact⟨rfl,rfl⟩
theorem wU(o:ai)(v:AV):(step E o v).s=E.s:=by
 unfold step
 have:∀(U:St)(d:Option Nat)(x:AV),(U.put d x).s=U.s:=fun U d x=>by cases d<;>rfl
 rw[this,(jD (dr o E) v o.dst).2.1,(agt o).1]
theorem wF(av:AV):bq (view av)=bq av:=by cases av<;>rfl
theorem HZ(av:AV)(n off:Nat):mO n off (view av)=mO n off av:=by cases av<;>rfl
theorem kc{av:AV}(h:bq av=true)(n off:Nat):mO n off av=none:=by cases av<;>first|rfl|(simp[bq]at h)
theorem aam{o:ai}{v:AV}(hf:aZ E o.dst=true)(hv:bq v=true):∀p n,rd (step E o v) p n=rd E p n:=by
 intro p n
 cases p<;>try rfl
 ·rename_i b off
  show BM n off ((step E o v).s b)=BM n off (E.s b)
  rw[wU]
 ·rename_i d off
  show mO n off (look (step E o v).e d)=mO n off (look E.e d)
  rw[jc]
  by_cases hd:o.dst=some d
  ·rw[if_pos hd,kc hv]
   rw[hd]at hf
   exact(kc hf n off).symm
  ·rw[if_neg hd]
   split
   ·exact HZ ..
   ·rfl
theorem OU{o y:ai}{v:AV}(hf:aZ E y.dst=true)(hv:bq v=true)(hn:gZ y.dst (cy o)=true)(hdr:Xu y o=true):OQ o E (step E y v):=by
 have key:∀i,i∈cy o->look (step E y v).e i=look E.e i:=by
  intro i hi
  have h1:¬iD y i=true:=by
   have:=List.all_eq_true.1 hdr i hi
   simpa using this
  rw[jc,if_neg,if_neg h1]
  intro hd
  rw[hd]at hn
  simp[gZ]at hn
  exact hn hi
 refine⟨fun x hx=>?_,fun t want hg=>?_,(wU y v).symm,fun x _ g n=>(aam hf hv _ n).symm⟩
 ·cases x with
  |c a=>rfl
  |t i=>exact(key i (List.mem_append_right _ (il hx))).symm
 ·exact(key t (List.mem_append_left _ (by rw[hg];exact List.mem_cons_self))).symm
structure mF(E E':St):Prop where
 e:∀i,look E.e i=look E'.e i
 lp:∀x,x∈E.lp↔x∈E'.lp
 s:E.s=E'.s
theorem mF.refl(E:St):mF E E:=⟨fun _=>rfl,fun _=>Iff.rfl,rfl⟩
theorem mF.symm(h:mF E E'):mF E' E:=⟨fun i=>(h.e i).symm,fun x=>(h.lp x).symm,h.s.symm⟩
theorem mF.trans{E₃:St}(h:mF E E')(k:mF E' E₃):mF E E₃:=⟨fun i=>(h.e i).trans (k.e i),fun x=>(h.lp x).trans (k.lp x),h.s.trans k.s⟩
theorem mF.rd(h:mF E E'):∀p n,AB.rd E p n=AB.rd E' p n:=by
 intro p n
 cases p<;>try rfl
 ·rename_i b off
  show BM n off (E.s b)=BM n off (E'.s b)
  rw[h.s]
 ·rename_i d off
  show mO n off (look E.e d)=mO n off (look E'.e d)
  rw[h.e]
theorem mF.Tb(h:mF E E')(o:ai):OQ o E E':=⟨fun x _=>by cases x with
 |c a=>rfl
 |t i=>exact h.e i,fun t _ _=>h.e t,h.s,fun x _ g n=>h.rd _ n⟩
theorem mF.free(h:mF E E')(d:Option Nat):aZ E d=aZ E' d:=by
 cases d with
 |none=>rfl
 |some d=>show bq (look E.e d)=bq (look E'.e d);rw[h.e]
theorem HE:∀(v:AV)(d:Option Nat)(x:Nat×Nat),x∈(bU E v d).lp↔(x∈E.lp\/∃i,d=some i/\x.1=i/\bD v x.2)
 |.lp t off,some i,(x1,x2)=>by
  show(x1,x2)∈(i,t)::E.lp↔_
  rw[List.mem_cons]
  constructor
  ·rintro(h|h)
   ·injection h with h1 h2;exact .inr ⟨i,rfl,h1,h2.symm⟩
   ·exact .inl h
  ·rintro(h|⟨j,h1,h2,h3⟩)
   ·exact .inr h
   ·injection h1 with h1
    have h3':t=x2:=h3
    have h2':x1=j:=h2
    subst h1;subst h2';subst h3'
    exact .inl rfl
 |.lp t off,none,x=>⟨fun h=>.inl h,fun h=>h.elim id fun⟨_,h1,_⟩=>by cases h1⟩
 |.when _ v,d,x=>HE v d x
 |.undef,_,_|.bool _,_,_|.int _ _,_,_|.str _,_,_|.dV,_,_|.ref _ _,_,_|.sp _,_,_|.loc _,_,_|.sl _ _ _ _,_,_|.arr _ _ _ _,_,_|.agg _,_,_|.gK _,_,_|.fn _ _ _,_,_|.ph,_,_|.mp _,_,_|.pj,_,_|.us _ _ _,_,_|.one,_,_|.ri _,_,_|.BD,_,_|.bb _ _ _,_,_=>⟨fun h=>.inl h,fun h=>h.elim id fun⟨_,_,_,h3⟩=>h3.elim⟩
theorem xK(o:ai)(v:AV)(x:Nat×Nat):x∈(step E o v).lp↔(x∈E.lp\/∃i,o.dst=some i/\x.1=i/\bD v x.2):=by
 have h1:(step E o v).lp=(bU (dr o E) v o.dst).lp:=by unfold step;cases o.dst<;>rfl
 rw[h1,<-(agt (E:=E) o).2]
 exact HE v o.dst x
theorem Inv.eqv(h:Inv G n D E a w)(k:mF E E'):Inv G n D E' a w:=
 ⟨h.aV,by rw[<-k.s];exact h.store,h.size,fun i v hv=>by
   rw[<-k.e i]
   exact dt.frame (fun _ _ hv=>hv) (fun b _=>⟨rfl,rfl,rfl⟩) (fun _ _ _ _ hc=>⟨hc,rfl,rfl⟩) _ _ (fun t _ cs hcs=>⟨cs,by rw[k.e];exact hcs,rfl⟩) (h.cy i v hv),
   fun i hi=>by rw[<-k.e i];exact h.Jj i hi,fun i t ht=>(k.lp _).1 (h.Rj i t (by rw[k.e];exact ht)),h.uE⟩
theorem mF.step(h:mF E E')(o:ai)(v:AV):mF (AB.step E o v) (AB.step E' o v):=⟨fun i=>by rw[jc,jc,h.e],fun x=>by rw[xK,xK,h.lp],by rw[wU,wU,h.s]⟩
theorem Vr{x y:ai}{u v:AV}(hne:∀i j,x.dst=some i->y.dst=some j->i≠j)(hxy:∀i,y.dst=some i->iD x i=false)(hyx:∀i,x.dst=some i->iD y i=false):mF (step (step E x u) y v) (step (step E y v) x u):=
 ⟨fun i=>by
   rw[jc,jc,jc,jc]
   by_cases h1:y.dst=some i
   ·by_cases h2:x.dst=some i
    ·exact absurd rfl (hne i i h2 h1)
    ·simp[h1,h2,hxy i h1]
   ·by_cases h2:x.dst=some i
    ·simp[h1,h2,hyx i h2]
    ·simp only[h1,h2,if_false]
     by_cases h3:iD x i=true<;>by_cases h4:iD y i=true<;>simp[h3,h4],fun z=>by
   rw[xK,xK,xK,xK]
   constructor
   ·rintro((h|h)|h)
    ·exact .inl (.inl h)
    ·exact .inr h
    ·exact .inl (.inr h)
   ·rintro((h|h)|h)
    ·exact .inl (.inl h)
    ·exact .inr h
    ·exact .inl (.inr h),by rw[wU,wU,wU,wU]⟩
end
end Go.AB
end
