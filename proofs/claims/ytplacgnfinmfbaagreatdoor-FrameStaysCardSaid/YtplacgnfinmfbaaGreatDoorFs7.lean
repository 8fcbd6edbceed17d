/- A part. -/
import Derived.Test.YtplacgnfinmfbaaGreatDoorFs6
import Derived.LoopN
import Derived.ScopeJumps
set_option linter.unusedSimpArgs false
set_option linter.unusedVariables false
section
namespace Go.AB
open Go
section
variable{P:Program}{G G':Gh}{n:Nat}{D:List Deferred}{E:St}{a:Act}{w w':World}
theorem qD{ops:Array Oper}{Q:Exit->Act->World->Prop}{K:St->Prop}(G₀:Gh)(w₀:World)
 (hn:∀G' E' a' w',Inv G' n D E' a' w'->aK G₀ w₀ G' w'->K E'->Q .normal a' w'):∀(l:List Oper)(l':List au)(G:Gh)(E:St)(a:Act)(w:World),cu P n ops l l'=true->Inv G n D E a w->aK G₀ w₀ G w->Lo P l' E K->wpList P ops Q l a w
 |[],[],G,E,a,w,_,h,hp,hk=>hn G E a w h hp hk
 |o::l,o'::l',G,E,a,w,hc,h,hp,hk=>by
  simp only[cu,Bool.and_eq_true]at hc
  show xI P ops o a w (wpList P ops Q l) Q
  exact gB h hc.1 hk fun G' E' a' w' h1 h2 h3=>qD G₀ w₀ hn l l' G' E' a' w' hc.2 h1 (hp.trans h2) h3
 |[],_::_,_,_,_,_,hc,_,_,_=>by simp[cu]at hc
 |_::_,[],_,_,_,_,hc,_,_,_=>by simp[cu]at hc
theorem GD(e:List (Nat×AV))(i:Nat):∀(live:List Nat),look (live.map fun j=>(j,dY (look e j))) i=if i∈live then dY (look e i)else .undef
 |[]=>rfl
 |j::live=>by
  rw[List.map_cons,aX,GD e i live]
  grind
theorem zI(av:AV)(t:Nat):¬bD (dY av) t:=by cases av<;>simp[dY,bD]
theorem Inv.vU(h:Inv G n D E a w)(live:List Nat):Inv G n D (E.vU live) a w:=by
 have hl:∀i,look (E.vU live).e i=if i∈live then dY (look E.e i)else .undef:=fun i=>GD E.e i live
 have hu:∀i v,dc G w (E.vU live).e a.tmps i .undef v:=fun i v=>⟨.undef _,trivial⟩
 refine⟨h.bj,h.store,h.size,fun i v hv=>?_,fun i hi=>?_,fun i t ht=>?_,h.pO⟩
 ·rw[hl i]
  by_cases hi:i∈live
  ·rw[if_pos hi]
   have hs:=h.cm i v hv
   generalize look E.e i=av at hs
   have fr:∀av,(∀t,¬bD av t)->dc G w E.e a.tmps i av v->dc G w (E.vU live).e a.tmps i av v:=fun av hno hs=>dc.frame (fun _ _ hv=>hv) (fun b _=>⟨rfl,rfl,rfl⟩) (fun _ _ _ _ hc=>⟨hc,rfl,rfl⟩) _ _ (fun t ht=>(hno t ht).elim) hs
   cases av<;>first|exact hu i v|exact fr _ (fun t ht=>ht) hs
  grind
 ·rw[hl i]
  by_cases hi':i∈live
  ·rw[if_pos hi',h.EI i hi];rfl
  grind
 ·rw[hl i]at ht
  by_cases hi:i∈live
  ·rw[if_pos hi]at ht;grind [zI]
  ·rw[if_neg hi]at ht;exact ht.elim
theorem DA(e:List (Nat×AV))(i:Nat):∀(live:List (Nat×Bool)),look (live.map fun p=>(p.1,TU p.2 (dY (look e p.1)))) i=.undef\/look (live.map fun p=>(p.1,TU p.2 (dY (look e p.1)))) i=dY (look e i)\/look (live.map fun p=>(p.1,TU p.2 (dY (look e p.1)))) i=view (dY (look e i))
 |[]=>.inl rfl
 |p::live=>by
  rw[List.map_cons,aX]
  by_cases h:p.1=i
  ·rw[if_pos h,h]
   cases p.2 with
   |false=>exact .inr (.inl rfl)
   |true=>exact .inr (.inr rfl)
  ·rw[if_neg h];exact DA e i live
theorem dc.agc{e:List (Nat×AV)}{tmps:Array Value}{i:Nat}{av:AV}{v:Value}(h:dc G w e tmps i av v):dc G w e tmps i (view av) v:=by cases av<;>first|exact h|exact⟨VR.undef _,trivial⟩|exact⟨VR.view h.1,dy.view ..⟩
theorem WR(av:AV)(h:∀t,¬bD av t)(t:Nat):¬bD (view av) t:=by cases av<;>first|exact h t|exact fun h=>h
theorem Inv.ed(h:Inv G n D E a w)(live:List (Nat×Bool)):Inv G n D (E.ed live) a w:=by
 have fr:∀i v,a.tmps[i]? =some v->dc G w (E.ed live).e a.tmps i (dY (look E.e i)) v:=fun i v hv=>by
  have hs:=h.cm i v hv
  generalize look E.e i=av at hs
  have fr:∀av,(∀t,¬bD av t)->dc G w E.e a.tmps i av v->dc G w (E.ed live).e a.tmps i av v:=fun av hno hs=>dc.frame (fun _ _ hv=>hv) (fun b _=>⟨rfl,rfl,rfl⟩) (fun _ _ _ _ hc=>⟨hc,rfl,rfl⟩) _ _ (fun t ht=>(hno t ht).elim) hs
  cases av<;>first|exact⟨.undef _,trivial⟩|exact fr _ (fun t ht=>ht) hs
 have hl:=fun i=>DA E.e i live
 refine⟨h.bj,h.store,h.size,fun i v hv=>?_,fun i hi=>?_,fun i t ht=>?_,h.pO⟩
 ·rcases hl i with e|e|e
  ·have e':look (E.ed live).e i=.undef:=e
   rw[e'];exact⟨.undef _,trivial⟩
  ·have e':look (E.ed live).e i=dY (look E.e i):=e
   grind
  ·have e':look (E.ed live).e i=view (dY (look E.e i)):=e
   grind [dc.agc]
 ·rcases hl i with e|e|e
  ·exact e
  ·have e':look (E.ed live).e i=dY (look E.e i):=e
   rw[e',h.EI i hi];rfl
  ·have e':look (E.ed live).e i=view (dY (look E.e i)):=e
   rw[e',h.EI i hi];rfl
 ·have ht':bD (look (E.ed live).e i) t:=ht
  rcases hl i with e|e|e
  ·have e':look (E.ed live).e i=.undef:=e
   rw[e']at ht';exact ht'.elim
  ·have e':look (E.ed live).e i=dY (look E.e i):=e
   grind [zI]
  ·have e':look (E.ed live).e i=view (dY (look E.e i)):=e
   grind [WR,zI]
def WY(P:Program)(n:Nat):Prop:=
 ∀(D:List Deferred)(draw:Bool)(id:Nat)(ops:Array Oper)(bG:List au)(q:Nat)(G:Gh)(E:St)(a:Act)(w:World)(K:St->Prop)(Q:Exit->Act->World->Prop),
  cu P n ops ops.toList bG=true->(draw=true->Nr ops q bG=true)->Inv G n D E a w->Ud P q bG E K->
  (∀G' E' a' w',Inv G' n D E' a' w'->aK G w G' w'->K E'->Q .normal a' w')->(Code.region id ops draw).wp P Q a w
def WZ(P:Program)(n:Nat):Prop:=
 ∀(D:List Deferred)(draw:Bool)(id:Nat)(ops:Array Oper)(bG:List au)(T:List Nat)(q:Nat)(G:Gh)(E:St)(a:Act)(w:World)(K:St->Prop)(Q:Exit->Act->World->Prop),
  cu P n ops ops.toList bG=true->(draw=true->Hv T ops q bG=true)->Inv G n D E a w->gK T E.e=true->D0 P T q bG E K->
  (∀G' E' a' w',Inv G' n D E' a' w'->aK G w G' w'->K E'->Q .normal a' w')->(Code.region id ops draw).wp P Q a w
def WX(P:Program)(n:Nat):Prop:=
 ∀(D:List Deferred)(id:Nat)(ops:Array Oper)(T:List Nat)(l:List Item)(G:Gh)(E:St)(a:Act)(w:World)(K:St->Prop)(Q:Exit->Act->World->Prop),
  YW P T n ops l=true->Inv G n D E a w->gK T E.e=true->FX P T l E K->
  (∀G' E' a' w',Inv G' n D E' a' w'->aK G w G' w'->K E'->Q .normal a' w')->(Code.region id ops true).wp P Q a w
def W0(P:Program)(n:Nat):Prop:=
 ∀(D:List Deferred)(id:Nat)(ops:Array Oper)(fO:List (List Bool))(bG:List au)(G:Gh)(E:St)(a:Act)(w:World)(K:St->Prop)(Q:Exit->Act->World->Prop),
  cu P n ops ops.toList bG=true->Nu ops fO=true->Inv G n D E a w->ON P fO bG K bG (uK bG) E->
  (∀G' E' a' w',Inv G' n D E' a' w'->aK G w G' w'->K E'->Q .normal a' w')->(Code.region id ops true).wp P Q a w
def wS(P:Program)(n:Nat):Prop:=WY P n/\WZ P n/\WX P n/\W0 P n
def Rel(n:Nat)(D:List Deferred)(G₀:Gh)(w₀:World)(Q:Exit->St->Prop)(Q':Exit->Act->World->Prop):Prop:=∀x G' E' a' w',Inv G' n D E' a' w'->aK G₀ w₀ G' w'->Q x E'->Q' x a' w'
theorem P3:∀(c:Code){L:List Code}{cr:Code}{l:Nat},AE c l=some (L,cr)->c=L.foldr Code.seq (.seq (.label l) cr)/\findLabel c l=some (Code.skip.seq cr):=by
 intro c
 induction c with
 |seq s c _ ih=>
  intro L cr l h
  have gen:(∀m,s≠.label m)->(if(findLabel s l).isNone then(AE c l).map fun p=>(s::p.1,p.2)else none)=some (L,cr)->Code.seq s c=L.foldr Code.seq (.seq (.label l) cr)/\findLabel (Code.seq s c) l=some (Code.skip.seq cr):=by
   intro _ h
   split at h
   ·rename_i hn
    cases hs:AE c l with
    |none=>grind
    |some p=>grind [findLabel,Option.isNone_iff_eq_none,q1,q2]
   ·cases h
  cases s with
  |label m=>
   have h:(if m==l then some (([]:List Code),c)else none)=some (L,cr):=h
   split at h
   ·rename_i hm
    injection h with h;injection h with h1 h2;subst h1;subst h2
    have hm':m=l:=by simpa using hm
    subst hm'
    exact⟨rfl,by simp[findLabel]⟩
   ·cases h
  |_=>exact gen (fun m e=>by cases e) h
 |_=>intro L cr l h;cases h
theorem ns{a:IC}(h:xt a=true):a=.skip:=by cases a<;>first|rfl|cases h
def qN(n:Nat)(D:List Deferred)(G₀:Gh)(w₀:World)(C:(St->Prop)->(St->Nat)->Prop)(a:Act)(w:World)(k:Nat):Prop:=∃I μ G τ,C I μ/\Inv G n D τ a w/\aK G₀ w₀ G w/\I τ/\μ τ<=k
noncomputable def Mw(n:Nat)(D:List Deferred)(G₀:Gh)(w₀:World)(C:(St->Prop)->(St->Nat)->Prop)(a:Act)(w:World):Nat:=Classical.epsilon fun k=>qN n D G₀ w₀ C a w k/\∀j,qN n D G₀ w₀ C a w j->k<=j
theorem A1{n:Nat}{D:List Deferred}{G₀:Gh}{w₀:World}{C:(St->Prop)->(St->Nat)->Prop}{a:Act}{w:World}(h:∃k,qN n D G₀ w₀ C a w k):
 qN n D G₀ w₀ C a w (Mw n D G₀ w₀ C a w)/\∀j,qN n D G₀ w₀ C a w j->Mw n D G₀ w₀ C a w<=j:=by
 refine Classical.epsilon_spec (p:=fun k=>qN n D G₀ w₀ C a w k/\∀j,qN n D G₀ w₀ C a w j->k<=j) ?_
 obtain⟨k,hk⟩:=h
 induction k using Nat.strongRecOn with
 |_ k ih=>grind
theorem cG(hD:wS P n):∀(ic:IC)(c:Code)(G₀:Gh)(w₀:World)(Q:Exit->St->Prop)(Q':Exit->Act->World->Prop)(G:Gh)(E:St)(a:Act)(w:World),
 kZ P n c ic=true->Rel n D G₀ w₀ Q Q'->Inv G n D E a w->aK G₀ w₀ G w->fK P ic Q E->c.wp P Q' a w
 |.skip,c,G₀,w₀,Q,Q',G,E,a,w,hc,hr,h,hp,hw=>by
  cases c<;>first|(simp[kZ]at hc;done)|skip
  exact wp_skip (hr _ G E a w h hp hw)
 |.Yo q bG live,c,G₀,w₀,Q,Q',G,E,a,w,hc,hr,h,hp,hw=>by
  cases c<;>first|(simp[kZ]at hc;done)|skip
  rename_i id ops draw
  simp only[kZ,Bool.and_eq_true]at hc
  have hn:∀G' E' a' w',Inv G' n D E' a' w'->aK G₀ w₀ G' w'->uk live Q E'->Q' .normal a' w':=fun G' E' a' w' h1 h2 h3=>hr _ G' _ a' w' (h1.vU live) h2 h3
  cases q with
  |none=>
   have hdr:draw=false:=by simpa using hc.2
   subst hdr
   exact wp_region_list (qD G₀ w₀ hn ops.toList bG G E a w hc.1 h hp hw)
  |some q=>
   have hdr:draw=true->Nr ops q bG=true:=fun hd=>by grind
   exact hD.1 D draw id ops bG q G E a w _ Q' hc.1 hdr h hw fun G' E' a' w' h1 h2 h3=>hn G' E' a' w' h1 (hp.trans h2) h3
 |.S0 T q bG live,c,G₀,w₀,Q,Q',G,E,a,w,hc,hr,h,hp,hw=>by
  cases c<;>first|(simp[kZ]at hc;done)|skip
  rename_i id ops draw
  simp only[kZ,Bool.and_eq_true]at hc
  have hn:∀G' E' a' w',Inv G' n D E' a' w'->aK G₀ w₀ G' w'->uk live Q E'->Q' .normal a' w':=fun G' E' a' w' h1 h2 h3=>hr _ G' _ a' w' (h1.vU live) h2 h3
  have hdr:draw=true->Hv T ops q bG=true:=fun hd=>by grind
  exact hD.2.1 D draw id ops bG T q G E a w _ Q' hc.1 hdr h hw.1 hw.2 fun G' E' a' w' h1 h2 h3=>hn G' E' a' w' h1 (hp.trans h2) h3
 |.SZ T l live,c,G₀,w₀,Q,Q',G,E,a,w,hc,hr,h,hp,hw=>by
  cases c<;>first|(simp[kZ]at hc;done)|skip
  rename_i id ops draw
  simp only[kZ,Bool.and_eq_true]at hc
  obtain⟨rfl,hc⟩:=hc
  have hn:∀G' E' a' w',Inv G' n D E' a' w'->aK G₀ w₀ G' w'->uk live Q E'->Q' .normal a' w':=fun G' E' a' w' h1 h2 h3=>hr _ G' _ a' w' (h1.vU live) h2 h3
  exact hD.2.2.1 D id ops T l G E a w _ Q' hc h hw.1 hw.2 fun G' E' a' w' h1 h2 h3=>hn G' E' a' w' h1 (hp.trans h2) h3
 |.Ta fO bG live,c,G₀,w₀,Q,Q',G,E,a,w,hc,hr,h,hp,hw=>by
  cases c<;>first|(simp[kZ]at hc;done)|skip
  rename_i id ops draw
  simp only[kZ,Bool.and_eq_true]at hc
  obtain⟨rfl,hc1,hc2⟩:=hc
  have hn:∀G' E' a' w',Inv G' n D E' a' w'->aK G₀ w₀ G' w'->uk live Q E'->Q' .normal a' w':=fun G' E' a' w' h1 h2 h3=>hr _ G' _ a' w' (h1.vU live) h2 h3
  exact hD.2.2.2 D id ops fO bG G E a w _ Q' hc1 hc2 h hw fun G' E' a' w' h1 h2 h3=>hn G' E' a' w' h1 (hp.trans h2) h3
 |.seq x y,c,G₀,w₀,Q,Q',G,E,a,w,hc,hr,h,hp,hw=>by
  cases c<;>first|(simp[kZ]at hc;done)|skip
  rename_i c1 c2
  simp only[kZ,Bool.and_eq_true]at hc
  refine wp_seq (cG hD x c1 G₀ w₀ (BG P y Q) _ G E a w hc.1 ?_ h hp ?_)
  ·intro e G' E' a' w' h1 h2 h3
   cases e with
   |normal=>exact cG hD y c2 G₀ w₀ Q Q' G' E' a' w' hc.2 hr h1 h2 h3
   |_=>exact hr _ G' E' a' w' h1 h2 h3
  ·have:(fun x τ=>match x with|.normal=>fK P y Q τ|x=>Q x τ)=BG P y Q:=by
    funext e τ;cases e<;>rfl
   have hw':fK P x (fun x τ=>match x with|.normal=>fK P y Q τ|x=>Q x τ) E:=hw
   grind
 |.cond cx x y,c,G₀,w₀,Q,Q',G,E,a,w,hc,hr,h,hp,hw=>by
  cases c<;>first|(simp[kZ]at hc;done)|skip
  rename_i o c1 c2
  simp only[kZ,Bool.and_eq_true]at hc
  obtain⟨⟨hx,h1⟩,h2⟩:=hc
  have hb:=XR.aV h hx
  have hw':Nw P x y Q E (E.x cx):=by
   have:fK P (.cond cx x y) Q E=Nw P x y Q E (E.x cx):=by
    show(match E.x cx with|.bool v=>(v=true->fK P x Q E)/\(v=false->fK P y Q E)|_=>False)=_
    cases E.x cx<;>rfl
   rw[<-this];exact hw
  generalize E.x cx=xv at hb hw'
  cases xv<;>try exact hw'.elim
  rename_i v
  have hv:=VR.lU hb
  exact wp_cond_split hv (fun hv=>cG hD x c1 G₀ w₀ Q Q' G E a w h1 hr h hp (hw'.1 hv)) (fun hv=>cG hD y c2 G₀ w₀ Q Q' G E a w h2 hr h hp (hw'.2 hv))
 |.block id x,c,G₀,w₀,Q,Q',G,E,a,w,hc,hr,h,hp,hw=>by
  cases c<;>first|(simp[kZ]at hc;done)|skip
  rename_i id' c1
  simp only[kZ,Bool.and_eq_true,beq_iff_eq]at hc
  obtain⟨rfl,hc⟩:=hc
  refine wp_block (cG hD x c1 G₀ w₀ (LL id' Q) _ G E a w hc ?_ h hp hw)
  intro e G' E' a' w' h1 h2 h3
  cases e with
  |exit i=>
   have h3':(bif i==id' then Q .normal E' else Q (.exit i) E'):=h3
   by_cases hi:i=id'
   ·have:(i==id')=true:=by simpa using hi
    rw[this]at h3'
    simpa[Exit.inBlock,hi]using hr _ G' E' a' w' h1 h2 h3'
   ·have:(i==id')=false:=by simpa using hi
    rw[this]at h3'
    simpa[Exit.inBlock,hi]using hr _ G' E' a' w' h1 h2 h3'
  |_=>exact hr _ G' E' a' w' h1 h2 h3
 |.loop live x,c,G₀,w₀,Q,Q',G,E,a,w,hc,hr,h,hp,hw=>by
  cases c<;>first|(simp[kZ]at hc;done)|skip
  rename_i c1
  simp only[kZ]at hc
  obtain⟨I,μ,h0,hI⟩:=hw
  have key:∀(m:Nat)(G:Gh)(E:St)(a:Act)(w:World),Inv G n D E a w->aK G₀ w₀ G w->I E->μ E<m->Code.rounds P c1 Q' m a w:=by
   intro m
   induction m with
   |zero=>intro G E a w _ _ _ hm;omega
   |succ m ih=>
    intro G E a w h hp hi hm
    rw[rounds_succ]
    refine cG hD x c1 G₀ w₀ (Sa live I μ (μ E) Q) _ G E a w hc ?_ h hp (hI E hi)
    intro e G' E' a' w' h1 h2 h3
    cases e with
    |normal=>exact ih G' _ a' w' (h1.ed live) h2 h3.1 (by have:=h3.2;omega)
    |_=>exact hr _ G' E' a' w' h1 h2 h3
  exact wp_loop_rounds (μ (E.ed live)+1) (key _ G _ a w (h.ed live) hp h0 (by omega))
 |.join live x y,c,G₀,w₀,Q,Q',G,E,a,w,hc,hr,h,hp,hw=>by
  cases c<;>first|(simp[kZ]at hc;done)|skip
  rename_i c1 c2
  simp only[kZ,Bool.and_eq_true]at hc
  obtain⟨J,h0,hJ⟩:=hw
  refine wp_seq (cG hD x c1 G₀ w₀ (oJ live J Q) _ G E a w hc.1 ?_ h hp h0)
  intro e G' E' a' w' h1 h2 h3
  cases e with
  |normal=>exact cG hD y c2 G₀ w₀ Q Q' G' _ a' w' hc.2 hr (h1.ed live) h2 (hJ _ h3)
  |_=>exact hr _ G' E' a' w' h1 h2 h3
 |.exit id,c,G₀,w₀,Q,Q',G,E,a,w,hc,hr,h,hp,hw=>by
  cases c<;>first|(simp[kZ]at hc;done)|skip
  simp only[kZ,beq_iff_eq]at hc
  subst hc
  exact wp_exit (hr _ G E a w h hp hw)
 |.scope x,c,G₀,w₀,Q,Q',G,E,a,w,hc,hr,h,hp,hw=>by
  cases c<;>first|(simp[kZ]at hc;done)|skip
  rename_i c1
  simp only[kZ]at hc
  have hw':fK P x (xN Q) E:=by
   have:(fun x τ=>match x with|.goto _=>False|x=>Q x τ)=xN Q:=by funext e τ;cases e<;>rfl
   have hw':fK P x (fun x τ=>match x with|.goto _=>False|x=>Q x τ) E:=hw
   rw[this]at hw'
   exact hw'
  refine wp_scope_straight (cG hD x c1 G₀ w₀ (xN Q) _ G E a w hc ?_ h hp hw')
  intro e G' E' a' w' h1 h2 h3
  cases e with
  |goto l=>exact h3
  |_=>exact hr _ G' E' a' w' h1 h2 h3
 |.Ec l live x1 x2 x3 y,c,G₀,w₀,Q,Q',G,E,a,w,hc,hr,h,hp,hw=>by
  unfold kZ at hc
  split at hc<;>try(cases hc;done)
  all_goals first|(rename_i he;cases he;done)|skip
  rename_i c1 m ajv x1' x2' x3' y' he
  injection he with e1 e2 e3 e4 e5 e6
  subst e1;subst e2;subst e3;subst e4;subst e5;subst e6
  have hw':fK P x1 (BG P x2 (BG P x3 (IU live (T8 P l live y Q) Q))) E:=by rw[<-LY];exact hw
  let C:(St->Prop)->(St->Nat)->Prop:=fun I μ=>∀τ,I τ->fK P y (Ib l live (fun ρ'=>I ρ'/\μ ρ'<μ τ) Q) τ
  have key:∀(L:List Code)(cr:Code),AE c1 l=some (L,cr)->kZ P n cr y=true->
   (∀Q0:Exit->Act->World->Prop,(∀e a w,e≠.normal->(∃G τ,Inv G n D τ a w/\aK G₀ w₀ G w/\IU live (T8 P l live y Q) Q e τ)->Q0 e a w)->
     (∀a w,(∃G τ,Inv G n D τ a w/\aK G₀ w₀ G w/\T8 P l live y Q (τ.ed live))->((Code.label l).seq cr).wp P Q0 a w)->(L.foldr Code.seq (.seq (.label l) cr)).wp P Q0 a w)->
   (Code.scope c1).wp P Q' a w:=by
   intro L cr hsp hcr Zv
   obtain⟨hc1,hfl⟩:=P3 _ hsp
   refine wp_scope_jumps l (fun a w=>∃k,qN n D G₀ w₀ C a w k) (Mw n D G₀ w₀ C) hfl ?_ ?_
   ·rw[hc1]
    refine Zv _ (fun e a' w' he⟨G',τ,h1,h2,h3⟩=>?_) (fun a' w'⟨G',τ,h1,h2,h3⟩=>?_)
    ·cases e with
     |goto l=>exact h3.elim
     |normal=>grind
     |_=>exact hr _ G' τ a' w' h1 h2 h3
    ·obtain⟨I,μ,h4,hI⟩:=h3
     refine wp_seq (wp_label ?_)
     refine cG hD y cr G₀ w₀ _ _ G' _ a' w' hcr ?_ (h1.ed live) h2 (hI _ h4)
     intro e G2 σ2 a2 w2 q1 q2 q3
     cases e with
     |goto l=>exact⟨q3.1,_,I,μ,G2,_,hI,q1.ed live,q2,q3.2.1,Nat.le_refl _⟩
     |_=>exact hr _ G2 σ2 a2 w2 q1 q2 q3
   ·intro a' w' hJ
    obtain⟨I,μ,G',τ,hI,h1,h2,h3,h4⟩:=(A1 hJ).1
    refine wp_seq (wp_skip ?_)
    refine cG hD y cr G₀ w₀ _ _ G' τ a' w' hcr ?_ h1 h2 (hI _ h3)
    intro e G2 σ2 a2 w2 q1 q2 q3
    cases e with
    |goto l=>
     have hk:qN n D G₀ w₀ C a2 w2 (μ (σ2.ed live)):=⟨I,μ,G2,_,hI,q1.ed live,q2,q3.2.1,Nat.le_refl _⟩
     refine⟨q3.1,⟨_,hk⟩,?_⟩
     have:=(A1 ⟨_,hk⟩).2 _ hk
     have:=q3.2.2
     omega
    |_=>exact hr _ G2 σ2 a2 w2 q1 q2 q3
  split at hc
  ·rename_i cr hsp
   simp only[Bool.and_eq_true]at hc
   obtain⟨k1,k2,k3,hcr⟩:=hc
   rw[ns k1,ns k2,ns k3]at hw'
   exact key _ _ hsp hcr fun Q0 _ hb=>hb _ _ ⟨G,E,h,hp,hw'⟩
  ·rename_i s1 cr hsp
   simp only[Bool.and_eq_true]at hc
   obtain⟨k1,k2,k3,hcr⟩:=hc
   rw[ns k2,ns k3]at hw'
   refine key _ _ hsp hcr fun Q0 ha hb=>wp_seq (cG hD x1 s1 G₀ w₀ _ _ G E a w k1 ?_ h hp hw')
   intro e G' E' a' w' h1 h2 h3
   cases e with
   |normal=>exact hb _ _ ⟨G',E',h1,h2,h3⟩
   |_=>exact ha _ _ _ (by simp) ⟨G',E',h1,h2,h3⟩
  ·rename_i s1 s2 cr hsp
   simp only[Bool.and_eq_true]at hc
   obtain⟨k1,k2,k3,hcr⟩:=hc
   rw[ns k3]at hw'
   refine key _ _ hsp hcr fun Q0 ha hb=>wp_seq (cG hD x1 s1 G₀ w₀ _ _ G E a w k1 ?_ h hp hw')
   intro e G' E' a' w' h1 h2 h3
   cases e with
   |normal=>
    refine wp_seq (cG hD x2 s2 G₀ w₀ _ _ G' E' a' w' k2 ?_ h1 h2 h3)
    intro e G' E' a' w' h1 h2 h3
    cases e with
    |normal=>exact hb _ _ ⟨G',E',h1,h2,h3⟩
    |_=>exact ha _ _ _ (by simp) ⟨G',E',h1,h2,h3⟩
   |_=>exact ha _ _ _ (by simp) ⟨G',E',h1,h2,h3⟩
  ·rename_i s1 s2 s3 cr hsp
   simp only[Bool.and_eq_true]at hc
   obtain⟨k1,k2,k3,hcr⟩:=hc
   refine key _ _ hsp hcr fun Q0 ha hb=>wp_seq (cG hD x1 s1 G₀ w₀ _ _ G E a w k1 ?_ h hp hw')
   intro e G' E' a' w' h1 h2 h3
   cases e with
   |normal=>
    refine wp_seq (cG hD x2 s2 G₀ w₀ _ _ G' E' a' w' k2 ?_ h1 h2 h3)
    intro e G' E' a' w' h1 h2 h3
    cases e with
    |normal=>
     refine wp_seq (cG hD x3 s3 G₀ w₀ _ _ G' E' a' w' k3 ?_ h1 h2 h3)
     intro e G' E' a' w' h1 h2 h3
     cases e with
     |normal=>exact hb _ _ ⟨G',E',h1,h2,h3⟩
     |_=>exact ha _ _ _ (by simp) ⟨G',E',h1,h2,h3⟩
    |_=>exact ha _ _ _ (by simp) ⟨G',E',h1,h2,h3⟩
   |_=>exact ha _ _ _ (by simp) ⟨G',E',h1,h2,h3⟩
  ·cases hc
 |.label l,c,G₀,w₀,Q,Q',G,E,a,w,hc,hr,h,hp,hw=>by
  cases c<;>first|(simp[kZ]at hc;done)|skip
  exact wp_label (hr _ G E a w h hp hw)
 |.goto l,c,G₀,w₀,Q,Q',G,E,a,w,hc,hr,h,hp,hw=>by
  cases c<;>first|(simp[kZ]at hc;done)|skip
  simp only[kZ,beq_iff_eq]at hc
  subst hc
  exact wp_goto (hr _ G E a w h hp hw)
 |.dead,c,G₀,w₀,Q,Q',G,E,a,w,hc,hr,h,hp,hw=>(show False from hw).elim
 |.ret,c,G₀,w₀,Q,Q',G,E,a,w,hc,hr,h,hp,hw=>by
  cases c<;>first|(simp[kZ]at hc;done)|skip
  exact wp_ret (hr _ G E a w h hp hw)
end
structure lu where
 t:Nat
 own:Bool
 cell:Option (Nat×Bool):=none
 deriving Inhabited
def Tb(multi:Bool):Option (List AV)->AV
 |some cs=>ny multi cs
 |none=>.undef
def um(E:St)(r:lu):AV:=match r.cell with
 |none=>bif r.own then look E.e r.t else view (look E.e r.t)
 |some (n,multi)=>Tb multi (rd E (look E.e r.t) n)
def j5(E:St)(res:List lu):List AV:=res.map (um E)
def jm(P:Program):List ResultVar->List lu->Bool
 |[],[]=>true
 |.tmp t::r,i::s=>t==i.t&&i.cell.isNone&&(!i.own||s.all fun j=>!(j.own&&j.t==i.t))&&jm P r s
 |.cell t ty::r,i::s=>t==i.t&&!i.own&&(match i.cell with
  |some (n,multi)=>dT P ty n&&sC P ty multi&&(multi||n==1)
  |none=>false)&&jm P r s
 |_,_=>false
def rH:Nat->List AV->List (Nat×AV)
 |_,[]=>[]
 |i,a::r=>(i,view a)::rH (i+1) r
def start(args:List AV)(s:ae):St:={e:=rH 0 args,lp:=[],s:=s}
def wU(cs:List AV):Bool:=cs.all dp
def FB(res:List lu)(Q:List AV->ae->Prop):Exit->St->Prop
 |.ret,E=>wU (j5 E res)=true/\Q (j5 E res) E.s
 |.normal,E=>wU (j5 E res)=true/\Q (j5 E res) E.s
 |_,_=>False
def aS(P:Program)(f:FuncId)(n:Nat)(res:List lu)(ic:IC):Bool:=match P.funcs[f]? with
 |some fn=>fn.ntmps==n&&jm P fn.results.toList res&&(match fn.body with
  |some c=>kZ P n c ic
  |none=>false)
 |none=>false
section
variable{P:Program}{G G':Gh}{n:Nat}{D:List Deferred}{E:St}{a:Act}{w w':World}
theorem oK(i:Nat):∀(args:List AV)(k:Nat),look (rH k args) i=if k<=i then(match args[i -k]? with|some a=>view a|none=>.undef)else .undef
 |[],k=>by
  show AV.undef=_
  grind
 |a::r,k=>by
  show look ((k,view a)::rH (k+1) r) i=_
  rw[aX,oK i r (k+1)]
  grind
theorem qC{args:List AV}{s:ae}{vs:Array Value}(hg:cE G w)(hs:bc G w s)(ha:rL w G.R args vs)(hv:wU args=true)(hn:args.length<=n):
 Inv G n [] (start args s) {tmps:=vs++Array.replicate (n -vs.size) undef,defers:=[]} w:=by
 have hsz:vs.size=args.length:=ha.1
 refine⟨hg,hs,by simp;omega,fun i v hi=>?_,fun i hi=>?_,fun i t ht=>?_,rfl⟩
 ·show dc G w (rH 0 args) _ i (look (rH 0 args) i) v
  rw[oK,if_pos (Nat.zero_le _),Nat.sub_zero]
  cases hai:args[i]? with
  |none=>exact⟨.undef _,trivial⟩
  |some av=>
   have hlt:i<args.length:=(List.getElem?_eq_some_iff.1 hai).1
   have hvi:vs[i]? =some v:=by
    have hi':(vs++Array.replicate (n -vs.size) undef)[i]? =some v:=hi
    rw[Array.getElem?_append_left (by omega)]at hi'
    exact hi'
   have hV:dp av=true:=by
    have:=List.all_eq_true.1 hv
    exact this av (List.mem_of_getElem? hai)
   exact dc.zf hV (ha.2 i av v hai hvi)
 ·show look (rH 0 args) i=.undef
  rw[oK,if_pos (Nat.zero_le _),Nat.sub_zero,List.getElem?_eq_none (by omega)]
 ·have ht':bD (look (rH 0 args) i) t:=ht
  rw[oK,if_pos (Nat.zero_le _),Nat.sub_zero]at ht'
  cases hai:args[i]? with
  |none=>rw[hai]at ht';exact ht'.elim
  |some av=>
   rw[hai]at ht'
   have hV:dp av=true:=List.all_eq_true.1 hv av (List.mem_of_getElem? hai)
   grind [eR,kJ]
def GU:List lu->Nat->Nat->Option Nat
 |[],_,_=>none
 |r::s,k,i=>bif r.own&&r.t==i then some k else GU s (k+1) i
def DH(G:Gh)(res:List lu):cZ->cZ
 |.none=>.none
 |.frame=>.frame
 |.sh=>.sh
 |.slot i j=>(match j,GU res 0 i with
  |0,some k=>.res k
  |_,_=>.none)
 |.cell b j=>if G.O b=.sh then .cell b j else .none
 |_=>.none
theorem GV:∀(vs:List ResultVar)(res:List lu),jm P vs res=true->vs.length=res.length
 |[],[],_=>rfl
 |v::vs,r::res,h=>by
  have:jm P vs res=true:=by cases v<;>simp only[jm,Bool.and_eq_true]at h<;>exact h.2
  simp[GV vs res this]
 |[],_::_,h=>by simp[jm]at h
 |_::_,[],h=>by simp[jm]at h
theorem xL:∀(vs:List ResultVar)(res:List lu)(k j:Nat)(r:lu),jm P vs res=true->res[j]? =some r->r.own=true->GU res k r.t=some (k+j)
 |v::vs,r0::res,k,0,r,_,hj,ho=>by grind [GU]
 |v::vs,r0::res,k,j+1,r,h,hj,ho=>by
  have hj':res[j]? =some r:=by simpa using hj
  have ad4:jm P vs res=true:=by cases v<;>simp only[jm,Bool.and_eq_true]at h<;>exact h.2
  have hne:(r0.own&&r0.t==r.t)=false:=by
   cases hr0:r0.own with
   |false=>rfl
   |true=>
    cases v with
    |cell=>grind [jm]
    |tmp t=>
    simp only[jm,Bool.and_eq_true]at h
    grind
  show(bif r0.own&&r0.t==r.t then some k else GU res (k+1) r.t)=_
  rw[hne]
  show GU res (k+1) r.t=_
  rw[xL vs res (k+1) j r ad4 hj' ho]
  grind
 |[],r0::res,_,_,_,h,_,_=>by simp[jm]at h
 |_,[],_,_,_,_,hj,_=>by simp at hj
theorem dc.VV{G:Gh}{w:World}{e:List (Nat×AV)}{tmps:Array Value}{i:Nat}{a:AV}{v:Value}(h:dp a=true\/dp (view a)=true):dc G w e tmps i a v->(VR w G.R a v/\dy G w (.slot i 0) a v):=by cases a<;>simp_all [dp,view,dc]
def Le(vs:Array Value):Value:=if h:vs.size=1 then vs[0]else .tuple vs
theorem mapM_some{α β:Type}(f:α->Sem β)(w:World):∀(l:List α)(vs:List β),l.length=vs.length->(∀(j:Nat)(x:α)(v:β),l[j]? =some x->vs[j]? =some v->(f x).run P w=.ok v w)->(l.mapM f).run P w=.ok vs w
 |[],[],_,_=>by simp
 |x::l,v::vs,hl,h=>by
  rw[List.mapM_cons]
  simp[h 0 x v rfl rfl,mapM_some f w l vs (by grind) (fun j y z hy hz=>h (j+1) y z (by grind) (by grind))]
 |[],_::_,hl,_=>by simp at hl
 |_::_,[],hl,_=>by simp at hl
def An(tmps:Array Value):ResultVar->Sem Value
 |.tmp t=>pure (tmps.getD t undef)
 |.cell a t=>do loadVar t (<-asAddr (tmps.getD a undef))
theorem Lf{fn:Func}(tmps:Array Value)(w:World)(vs:List Value)(hl:fn.results.toList.length=vs.length)(h:∀(j:Nat)(x:ResultVar)(v:Value),fn.results.toList[j]? =some x->vs[j]? =some v->(An tmps x).run P w=.ok v w):
 (results fn tmps).run P w=.ok (Le vs.toArray) w:=by
 have e:(fn.results.toList.mapM (An tmps)).run P w=.ok vs w:=mapM_some _ w _ _ hl h
 unfold results
 rw[Array.mapM_eq_mapM_toList]
 have key:∀F:ResultVar->Sem Value,F=An tmps->(do let vs<-List.toArray<$>fn.results.toList.mapM F;pure (if h:vs.size=1 then vs[0]else .tuple vs):Sem Value).run P w=.ok (Le vs.toArray) w:=by
  intro F hF
  subst hF
  simp only[Sem.run_bind,Sem.run_map,e,Result.andThen_ok]
  rfl
 exact key _ (by funext x;cases x<;>rfl)
theorem BZ{fn:Func}{res:List lu}{Q:List AV->ae->Prop}{E':St}{a':Act}(nb:jm P fn.results.toList res=true)(h:Inv G' n D E' a' w')(hp:aK G w G' w')(eD:wU (j5 E' res)=true)(hQ:Q (j5 E' res) E'.s):
 ∃v,(results fn a'.tmps).run P w'=.ok v w'/\∃v' rs s' G'',Ending.returned v=.returned v'/\Q rs s'/\cE G'' w'/\bc G'' w' s'/\qP G'' w' rs v'/\aK G w G'' w':=by
 let G2:Gh:=⟨G'.R,fun b=>DH G' res (G'.O b)⟩
 have hV:∀(j:Nat)(r:lu),res[j]? =some r->dp (um E' r)=true:=fun j r hj=>by
  refine List.all_eq_true.1 eD _ ?_
  exact List.mem_map.2 ⟨r,List.mem_of_getElem? hj,rfl⟩
 have hlen:=GV _ _ nb
 have get:∀(vs:List ResultVar)(rs:List lu),jm P vs rs=true->∀(j:Nat)(x:ResultVar)(r:lu),vs[j]? =some x->rs[j]? =some r->
  (x=.tmp r.t/\r.cell=none)\/∃ty n m,x=.cell r.t ty/\r.cell=some (n,m)/\r.own=false/\dT P ty n=true/\sC P ty m=true/\(m||n==1)=true:=by
  intro vs
  induction vs with
  |nil=>grind
  |cons v vs ih=>
   intro rs hh j x r hx hr
   cases rs with
   |nil=>simp at hr
   |cons r0 rs=>
    cases j with
    |succ j=>
     refine ih rs ?_ j x r (by grind) (by grind)
     cases v<;>simp only[jm,Bool.and_eq_true]at hh<;>exact hh.2
    |zero=>
     simp at hx hr;subst hx;subst hr
     cases v with
     |tmp t=>
      simp only[jm,Bool.and_eq_true,beq_iff_eq]at hh
      simp_all
     |cell t ty=>
      simp only[jm,Bool.and_eq_true,beq_iff_eq]at hh
      grind
 have Ml:∀(j:Nat)(x:ResultVar)(r:lu),fn.results.toList[j]? =some x->res[j]? =some r->∃v,(An a'.tmps x).run P w'=.ok v w'/\VR w' G2.R (um E' r) v/\dy G2 w' (.res j) (um E' r) v:=by
  intro j x r hx hj
  have hi:=hV j r hj
  have hlk:look E'.e r.t≠.undef:=by
   intro e
   unfold um at hi
   rw[e]at hi
   cases hr:r.cell with
   |none=>
    rw[hr]at hi
    cases ho:r.own with
    |true=>rw[ho]at hi;cases hi
    |false=>rw[ho]at hi;cases hi
   |some nm=>rw[hr]at hi;obtain⟨n1,m1⟩:=nm;cases hi
  have hlt:r.t<a'.tmps.size:=by rw[h.size];exact h.DC hlk
  rcases get _ _ nb j x r hx hj with⟨rfl,fB⟩|⟨ty,n1,m1,rfl,fB,ho,hs1,ha1,h11⟩
  ·refine⟨a'.tmps.getD r.t undef,rfl,?_⟩
   have hi':dp (look E'.e r.t)=true\/dp (view (look E'.e r.t))=true:=by
    unfold um at hi
    rw[fB]at hi
    cases hr:r.own with
    |true=>grind
    |false=>grind
   have hs:=h.cm r.t _ (fR hlt)
   replace hs:=dc.VV hi' hs
   have he:a'.eval (.tmp r.t)=a'.tmps.getD r.t undef:=rfl
   rw[he]at hs
   unfold um
   rw[fB]
   cases hr:r.own with
   |false=>exact⟨hs.1.view,dy.view ..⟩
   |true=>
    refine⟨hs.1,?_⟩
    have ho:=hs.2
    show dy G2 w' (.res j) (look E'.e r.t) _
    unfold dy at ho⊢
    split
    ·rename_i sz m cs hsl
     rw[hsl]at ho
     intro base m' cap hv hc
     obtain⟨b,off,c,e,fz,q1,q2,q3⟩:=ho base m' cap hv hc
     refine⟨b,off,c,e,fz,q1,?_,q3⟩
     show DH G' res (G'.O b)=.res j
     rw[q2]
     have:=xL fn.results.toList res 0 j r nb hj hr
     simp[DH,this]
    ·rename_i e m cs hsl
     rw[hsl]at ho
     intro base m' cap hv hc
     obtain⟨b,off,c,fz,q1,q2,q3⟩:=ho base m' cap hv hc
     refine⟨b,off,c,fz,q1,?_,q3⟩
     show DH G' res (G'.O b)=.res j
     rw[q2]
     have:=xL fn.results.toList res 0 j r nb hj hr
     simp[DH,this]
    ·trivial
  ·unfold um at hi⊢
   rw[fB]at hi⊢
   have hb:BR G' w' E' a' (.t r.t) (look E'.e r.t) (a'.tmps.getD r.t undef):=by
    have:=BR.aV h (o:=.tmp r.t) (x:=.t r.t) (by simp[bQ])
    have hun:xg true E' (.t r.t)=xT true (look E'.e r.t):=rfl
    rw[hun]at this
    generalize look E'.e r.t=av at this hi
    cases av<;>first|exact this|(cases hi;done)|trivial
   have hi:dp (Tb m1 (rd E' (look E'.e r.t) n1))=true:=hi
   show∃v,_/\VR w' G2.R (Tb m1 (rd E' (look E'.e r.t) n1)) v/\dy G2 w' (.res j) (Tb m1 (rd E' (look E'.e r.t) n1)) v
   cases hrd:rd E' (look E'.e r.t) n1 with
   |none=>rw[hrd]at hi;cases hi
   |some cs=>
    obtain⟨b,off,e,hl,hat,hvw⟩:=D2 h hb hrd
    obtain⟨v,cH,hvr⟩:=px hs1 ha1 h11 hl hat
    refine⟨v,?_,hvr,?_⟩
    ·show(do loadVar ty (<-asAddr (a'.tmps.getD r.t undef)):Sem Value).run P w'=_
     grind [asAddr]
    ·have ad8:=Ev (multi:=m1) hvw
     show dy G2 w' (.res j) (ny m1 cs) v
     grind [dy.view]
 have adO:∃vs:List Value,fn.results.toList.length=vs.length/\∀(j:Nat)(x:ResultVar)(r:lu)(v:Value),fn.results.toList[j]? =some x->res[j]? =some r->vs[j]? =some v->(An a'.tmps x).run P w'=.ok v w'/\VR w' G2.R (um E' r) v/\dy G2 w' (.res j) (um E' r) v:=by
  have hch:∀j:Fin fn.results.toList.length,∃v,∀(x:ResultVar)(r:lu),fn.results.toList[j.1]? =some x->res[j.1]? =some r->(An a'.tmps x).run P w'=.ok v w'/\VR w' G2.R (um E' r) v/\dy G2 w' (.res j.1) (um E' r) v:=by
   intro j
   have hr:j.1<res.length:=by rw[<-hlen];exact j.2
   obtain⟨v,hv⟩:=Ml j.1 _ _ (List.getElem?_eq_getElem j.2) (List.getElem?_eq_getElem hr)
   refine⟨v,fun x r hx hr'=>?_⟩
   rw[List.getElem?_eq_getElem j.2]at hx
   rw[List.getElem?_eq_getElem hr]at hr'
   injection hx with hx;injection hr' with hr'
   subst hx;subst hr'
   exact hv
  refine⟨List.ofFn fun j=>(hch j).choose,by simp,fun j x r v hx hr hv=>?_⟩
  have hj:j<fn.results.toList.length:=(List.getElem?_eq_some_iff.1 hx).1
  have:=(hch ⟨j,hj⟩).choose_spec x r hx hr
  simp only[List.getElem?_ofFn,hj,dite_true]at hv
  injection hv with hv
  rw[hv]at this
  exact this
 obtain⟨vs,hvl,hvs⟩:=adO
 refine⟨_,Lf a'.tmps w' vs hvl (fun j x v hx hv=>by
  have hj:j<res.length:=by rw[<-hlen];exact(List.getElem?_eq_some_iff.1 hx).1
  exact(hvs j x _ v hx (List.getElem?_eq_getElem hj) hv).1),?_⟩
 have q9:∀(j:Nat)(r:lu)(v:Value),res[j]? =some r->vs[j]? =some v->VR w' G2.R (um E' r) v/\dy G2 w' (.res j) (um E' r) v:=by
  intro j r v hr hv
  have hj:j<fn.results.toList.length:=by rw[hvl];exact(List.getElem?_eq_some_iff.1 hv).1
  exact(hvs j _ r v (List.getElem?_eq_getElem hj) hr hv).2
 have aii:vs.length=res.length:=by rw[<-hvl,hlen]
 refine⟨_,j5 E' res,E'.s,G2,rfl,hQ,⟨fun b hb=>?_,h.bj.mn⟩,?_,?_,?_⟩
 ·show DH G' res (G'.O b)=.none
  rw[h.bj.k7 b hb];rfl
 ·refine h.store.zg (fun _ _ hv=>hv) (fun b hb=>⟨?_,rfl,rfl⟩) (fun b c j hb hc=>⟨?_,rfl,rfl⟩)
  ·show DH G' res (G'.O b)=.sh
   rw[hb];rfl
  ·show DH G' res (G'.O c)=.cell b j
   rw[hc];simp[DH,hb]
 ·match res,vs,aii,q9 with
  |[],[],_,_=>exact⟨#[],rfl,rfl,fun j x y hx=>by grind⟩
  |[r],[v],_,q9=>
   have h1:=q9 0 r v rfl rfl
   have h2:=hV 0 r rfl
   show Yp G2 w' (um E' r) v
   generalize um E' r=av at h1 h2
   cases av<;>first|exact h1|cases h2
  |r1::r2::rr,v1::v2::vv,hl2,q9=>
   refine⟨_,rfl,by grind,fun j x y hx hy=>?_⟩
   grind
 ·refine⟨hp.os,hp.tape,hp.output,hp.drawn,hp.size,hp.mono,hp.mJ,hp.frame,fun b hb ho=>?_,fun b hb ho=>?_⟩
  ·obtain⟨e1,e2⟩:=hp.jr b hb ho
   exact⟨by show DH G' res (G'.O b)=_;rw[e1];rfl,e2⟩
  ·obtain⟨e1,e2⟩:=hp.qu b hb ho
   exact⟨by show DH G' res (G'.O b)=_;rw[e1];rfl,e2⟩
theorem FN.of{f:FuncId}{res:List lu}{ic:IC}{args:List AV}{s:ae}{Q:List AV->ae->Prop}(hD:wS P n)(hf:aS P f n res ic=true)(hv:wU args=true)(hn:args.length<=n)
 (hw:fK P ic (FB res Q) (start args s)):FN P f args s Q:=by
 intro G w vs hg ho hs ha
 unfold aS at hf
 split at hf<;>try(cases hf;done)
 rename_i fn hfn
 simp only[Bool.and_eq_true,beq_iff_eq]at hf
 obtain⟨⟨rfl,nb⟩,hf⟩:=hf
 split at hf<;>try(cases hf;done)
 rename_i c hb
 refine calls_of_wp hfn hb (cG hD ic c G w (FB res Q) _ G _ _ w hf ?_ (qC hg hs ha hv hn) (aK.refl G w) hw)
 intro x G' E' a' w' h hp hq
 have fin:wU (j5 E' res)=true/\Q (j5 E' res) E'.s->a'.defers=[]/\∃v,(results fn a'.tmps).run P w'=.ok v w'/\∃v' rs s' G'',Ending.returned v=.returned v'/\Q rs s'/\cE G'' w'/\bc G'' w' s'/\qP G'' w' rs v'/\aK G w G'' w':=by
  intro hq
  obtain⟨eD,hQ⟩:=hq
  exact⟨h.pO,BZ nb h hp eD hQ⟩
 cases x with
 |ret=>exact fin hq
 |normal=>exact fin hq
 |_=>exact hq.elim
end
theorem gS{f f':IX->AV}:∀(xs:List IX),(∀x∈xs,f x=f' x)->cq f xs=cq f' xs
 |[],_=>rfl
 |x::xs,h=>by
  show OT (f x) (cq f xs)=OT (f' x) (cq f' xs)
  rw[h x List.mem_cons_self,gS xs fun y hy=>h y (List.mem_cons_of_mem _ hy)]
theorem xf{f f':IX->AV}:∀(ps:List (Nat×Nat×IX))(cs:List AV),(∀x∈ps.map (fun p=>p.2.2),f x=f' x)->fill f cs ps=fill f' cs ps
 |[],_,_=>rfl
 |(off,n,x)::ps,cs,h=>by
  have h1:f x=f' x:=h x (by simp)
  have ih:∀cs,fill f cs ps=fill f' cs ps:=fun cs=>xf ps cs fun y hy=>h y (by simp only[List.map_cons,List.mem_cons];exact .inr hy)
  unfold fill
  rw[h1]
  simp only[ih]
theorem lA{f f':IX->AV}(o:Option IX)(d:Int)(h:∀x∈oX o,f x=f' x):EC f o d=EC f' o d:=by
 cases o with
 |none=>rfl
 |some x=>grind [EC,oX]
theorem SL{o:rY}{f f':IX->AV}{E E':St}(h:∀x∈eK o,f x=f' x)(hx:∀x∈eK o,E.x x=E'.x x)(hs:E.s=E'.s)(hrd:∀x∈eK o,∀n,rd E (f x) n=rd E' (f x) n):pv o f E=pv o f' E':=by
 cases o<;>(try rfl)
 case oM tr x=>cases tr<;>first|rfl|(show Px (f x)=Px (f' x);grind [eK])
 case pick c x y=>show GP (E.x x) (E.x y) (f c)=GP (E'.x x) (E'.x y) (f' c);grind [eK]
 case build z ps=>show Ca (fill f z ps)=Ca (fill f' z ps);rw[xf ps z h]
 case load n m x=>show mi m (rd E (f x) n)=mi m (rd E' (f' x) n);grind [eK]
 case kN z m x=>show GC z m E.s (f x)=GC z m E'.s (f' x);grind [eK]
 case jG x=>show qV (f x)=qV (f' x);grind [eK]
 case nilCheck x=>show lD (f x)=lD (f' x);grind [eK]
 case bin b x y=>show LK b (f x) (f y)=LK b (f' x) (f' y);grind [eK]
 case XD b x y=>show L7 b (f x) (f y)=L7 b (f' x) (f' y);grind [eK]
 case T5 b x y=>show EL b (f x) (f y)=EL b (f' x) (f' y);grind [eK]
 case T6 b x y=>unfold pv;grind [eK]
 case un u x=>show YD u (f x)=YD u (f' x);grind [eK]
 case mF k x=>show uV k (f x)=uV k (f' x);grind [eK]
 case kX x i=>show vj (f x) (f i)=vj (f' x) (f' i);grind [eK]
 case fieldAddr off x=>show gj off x (f x)=gj off x (f' x);grind [eK]
 case indexAddr sz x i=>show jJ sz (f x) (f i)=jJ sz (f' x) (f' i);grind [eK]
 case iQ sz l x i=>show fT sz l x (f x) (f i)=fT sz l x (f' x) (f' i);grind [eK]
 case slice sz x lo hi mx=>
  cases mx with
  |some m=>
   have e1:=lA (f:=f) (f':=f') lo 0 fun y hy=>h y (by simp[eK,hy])
   have e2:=lA (f:=f) (f':=f') hi 0 fun y hy=>h y (by simp[eK,hy])
   have e3:=lA (f:=f) (f':=f') (some m) 0 fun y hy=>h y (by simp[eK,hy])
   show oT sz f lo hi m (f x)=oT sz f' lo hi m (f' x)
   rw[h x (by simp[eK])]
   unfold oT
   grind
  |none=>
   have e1:=lA (f:=f) (f':=f') lo 0 fun y hy=>h y (by simp[eK,hy])
   have e2:=fun d=>lA (f:=f) (f':=f') hi d fun y hy=>h y (by simp[eK,hy])
   show uv sz f lo hi (f x)=uv sz f' lo hi (f' x)
   rw[h x (by simp[eK])]
   unfold uv
   grind
 case pC x lo hi=>
  have e1:=lA (f:=f) (f':=f') lo 0 fun y hy=>h y (by simp[eK,hy])
  have e2:=fun d=>lA (f:=f) (f':=f') hi d fun y hy=>h y (by simp[eK,hy])
  show lI f lo hi (f x)=lI f' lo hi (f' x)
  rw[h x (by simp[eK])]
  unfold lI
  grind
 case UQ b x=>show JX b (f x)=JX b (f' x);grind [eK]
 case cap x=>show LQ (f x)=LQ (f' x);grind [eK]
 case extract x k=>show pP k (f x)=pP k (f' x);grind [eK]
 case len c x=>show Bu E.s c (f x)=Bu E'.s c (f' x);grind [eK]
 case nY m xs=>
  show u5 m (xs.map f)=u5 m (xs.map f')
  rw[show xs.map f=xs.map f' from List.map_congr_left h]
 case ub fi xs ys=>
  show uZ fi (cq f xs) (cq f ys)=uZ fi (cq f' xs) (cq f' ys)
  grind [gS,eK]
def dr(o:au)(E:St):St:=match o.op with
 |.oM true x=>E.drain x
 |_=>E
def step(E:St)(o:au)(v:AV):St:=(b9 (dr o E) v o.dst).put o.dst v
theorem QT{o:au}{E:St}(h:qv o E≠.no):dr o E=E:=by
 obtain⟨d,op,g⟩:=o
 unfold dr
 split
 ·rename_i x hop
  simp only at hop
  subst hop
  refine absurd ?_ h
  cases g with
  |none=>rfl
  |some tw=>
   obtain⟨t,want⟩:=tw
   show K5 (.oM true x) want E (look E.e t)=.no
   unfold K5
   split<;>rfl
 ·rfl
inductive Y(P:Program)(E:St):au->AV->Prop where
 |pure (o:au) (v:AV) (h:(qv o E=.dh v\/∃c,qv o E=.fw c v/\c)):Y P E o v
 |oM (d:Option Nat) (x:IX) (h:dp (E.x x)=true):Y P E ⟨d,.oM true x,none⟩ (E.x x)
 |call (d:Option Nat) (f:Nat) (args:List IX) (as rs:List AV) (h1:cq (xg true E) args=some as) (h2:iX rs=true) (h3:FE P f as E.s rs E.s):Y P E ⟨d,.call f args,none⟩ (e7 rs)
 |JB (d:Option Nat) (f:Nat) (args:List IX) (t:Nat) (want g0 b:Bool) (rs:List AV) (h0:Rf (look E.e t)=some (g0,b)) (h2:iX rs=true)
   (h1:(g0&&(b==want))=true->∃as,cq (xg true E) args=some as/\FE P f as E.s rs E.s):Y P E ⟨d,.call f args,some (t,want)⟩ (.when (g0&&(b==want)) (e7 rs))
 |gw (d:Option Nat) (x:IX) (args:List IX) (f:Nat) (as rs:List AV) (h1:callee x args true E f as) (hf:vE P f=true) (h2:iX rs=true) (h3:FE P f as E.s rs E.s):Y P E ⟨d,.gw x args,none⟩ (e7 rs)
 |Ci (d:Option Nat) (x:IX) (args:List IX) (t:Nat) (want g0 b:Bool) (rs:List AV) (h0:Rf (look E.e t)=some (g0,b)) (h2:iX rs=true)
   (h1:(g0&&(b==want))=true->∃f as,callee x args true E f as/\vE P f=true/\FE P f as E.s rs E.s):Y P E ⟨d,.gw x args,some (t,want)⟩ (.when (g0&&(b==want)) (e7 rs))
 |XB (o:au) (v:AV) (h:(EE o E=.dh v\/∃c,EE o E=.fw c v/\c)):Y P E o v
theorem aa6{o:rY}{want:Bool}{E:St}{a:AV}:(∃g b,Rf a=some (g,b)/\K5 o want E a=WS (rdO o) (g&&(b==want)) (pv o (xg (g&&(b==want)) E) E))\/K5 o want E a=.no:=by
 unfold K5
 split
 ·exact .inl ⟨_,_,rfl,rfl⟩
 ·exact .inl ⟨_,_,rfl,rfl⟩
 grind
theorem SQ{o:rY}{want:Bool}{E:St}{a:AV}:(∃g b,Rf a=some (g,b)/\Ot o want E a=Qg (g&&(b==want)) (qe (xg (g&&(b==want)) E) E.s o))\/Ot o want E a=.no:=by
 unfold Ot
 split
 ·exact .inl ⟨_,_,rfl,rfl⟩
 ·exact .inl ⟨_,_,rfl,rfl⟩
 grind
theorem BQ{P:Program}{o:rY}{d:Option Nat}{t:Nat}{want:Bool}{E:St}{K:St->Prop}{a:AV}{g b:Bool}(h:Rf a=some (g,b)):zN P o d t want E K a=Qk P (g&&(b==want)) o E d K (pv o (xg (g&&(b==want)) E) E):=by
 unfold Rf at h
 split at h
 ·injection h with h;injection h with h1 h2;subst h1;subst h2;rfl
 ·injection h with h;injection h with h1 h2;subst h1;subst h2;rfl
 ·cases h
theorem zq{v:AV}(h:DW v=true):bw v=true/\(∀t,¬bD v t)/\(∀τ d,b9 τ v d=τ):=by cases v<;>first|(simp[DW,dp]at h;done)|exact⟨rfl,fun t h=>h,fun τ d=>by cases d<;>rfl⟩
theorem DZ{f:IX->AV}{s:ae}{o:rY}{v:AV}(h:qe f s o=.dh v\/∃c,qe f s o=.fw c v):DW v=true/\(∀g τ,pv o g τ=.no)/\(∀x,o≠.oM true x):=by
 have tt:∀{r:PR}{u:AV},r=.dh u->(r=.dh v\/∃c,r=.fw c v)->v=u:=by
  intro r u hr h
  subst hr
  rcases h with h|⟨c,h⟩
  ·grind
  ·cases h
 have tp:∀{r:PR}{u:AV}{c:Prop},r=.fw c u->(r=.dh v\/∃c,r=.fw c v)->v=u:=by
  intro r u c hr h
  subst hr
  rcases h with h|⟨c',h⟩
  ·cases h
  ·grind
 have tn:∀{r:PR},r=.no->¬(r=.dh v\/∃c,r=.fw c v):=by
  intro r hr h
  subst hr
  rcases h with h|⟨c',h⟩<;>cases h
 have ok:∀(k:Bool)(a:AV)(b:Bool),(k=false->dp a=true)->DW (okV k a b)=true:=by
  intro k a b ha
  cases k with
  |true=>rfl
  |false=>show DW a=true;have:=ha rfl;cases a<;>first|exact this|rfl
 unfold qe at h
 split at h
 ·rename_i x
  refine⟨?_,fun g τ=>rfl,fun x h=>by cases h⟩
  cases hx:f x<;>rw[hx]at h<;>first|(exact absurd h (tn rfl))|(rw[tt rfl h];rfl)
 ·rename_i sz n z ps
  refine⟨?_,fun g τ=>rfl,fun x h=>by cases h⟩
  cases hx:fill f z ps<;>rw[hx]at h
  ·exact absurd h (tn rfl)
  ·rw[tp rfl h];rfl
 ·rename_i x
  refine⟨?_,fun g τ=>rfl,fun x h=>by cases h⟩
  unfold BF at h
  split at h
  ·rw[tt rfl h];rfl
  grind
 ·rename_i x
  refine⟨?_,fun g τ=>rfl,fun x h=>by cases h⟩
  unfold AH at h
  split at h
  ·rw[tt rfl h];rfl
  grind
 grind
theorem SR{o:au}{E:St}{v:AV}(h:EE o E=.dh v\/∃c,EE o E=.fw c v/\c):
 bw v=true/\(∀t,¬bD v t)/\(∀τ d,b9 τ v d=τ)/\dr o E=E:=by
 obtain⟨d,op,g⟩:=o
 have hdr:(∀x,op≠.oM true x)->dr ⟨d,op,g⟩ E=E:=by
  intro h
  unfold dr
  split
  ·grind
  ·rfl
 have wk:∀{r:PR},(r=.dh v\/∃c,r=.fw c v/\c)->(r=.dh v\/∃c,r=.fw c v):=fun h=>h.imp id fun⟨c,h,_⟩=>⟨c,h⟩
 cases g with
 |none=>
  have h':qe (xg true E) E.s op=.dh v\/∃c,qe (xg true E) E.s op=.fw c v:=wk h
  grind [DZ,zq]
 |some tw=>
  obtain⟨t,want⟩:=tw
  have h':Ot op want E (look E.e t)=.dh v\/∃c,Ot op want E (look E.e t)=.fw c v:=wk h
  rcases SQ (o:=op) (want:=want) (E:=E) (a:=look E.e t)with⟨g0,b,hg0,hl⟩|hl<;>rw[hl]at h'
  case inr=>grind
  generalize(g0&&(b==want))=gg at h'
  have h2:Qg gg (qe (xg gg E) E.s op)=.dh v\/∃c,Qg gg (qe (xg gg E) E.s op)=.fw c v:=h'
  have:∃u,v=.when gg u/\(qe (xg gg E) E.s op=.dh u\/∃c,qe (xg gg E) E.s op=.fw c u):=by
   cases hq:qe (xg gg E) E.s op with
   |dh u=>
    rw[hq]at h2
    refine⟨u,?_,.inl rfl⟩
    rcases h2 with h2|⟨c,h2⟩
    ·injection h2 with h2;exact h2.symm
    ·cases h2
   |fw c u=>
    rw[hq]at h2
    refine⟨u,?_,.inr ⟨c,rfl⟩⟩
    rcases h2 with h2|⟨c,h2⟩
    ·cases h2
    ·injection h2 with _ h2;exact h2.symm
   |no=>rw[hq]at h2;rcases h2 with h2|⟨c,h2⟩<;>cases h2
  obtain⟨u,rfl,hu⟩:=this
  obtain⟨h1,_,h3⟩:=DZ hu
  obtain⟨f1,f2,f3⟩:=zq h1
  exact⟨rfl,fun t ht=>f2 t ht,fun τ d=>f3 τ d,hdr h3⟩
section
variable{P:Program}{G G':Gh}{n:Nat}{D:List Deferred}{E E':St}{a:Act}{w w':World}
theorem oP{rs:List AV}(h:iX rs=true)(E:St)(d:Option Nat):b9 E (e7 rs) d=E:=by
 match rs,h with
 |[],_=>cases d<;>rfl
 |[r],h=>
  show b9 E r d=E
  cases r<;>first|(cases d<;>rfl)|(simp[iX,dp,Vp]at h)
 |_::_::_,_=>cases d<;>rfl
theorem Kq{r:AV}(hr:dp r=true)(E:St)(d:Option Nat):b9 E r d=E:=by cases r<;>first|(cases d<;>rfl)|grind [dp]
theorem oQ{rs:List AV}(h:iX rs=true):bw (e7 rs)=true:=by
 match rs,h with
 |[],_=>rfl
 |[r],h=>
  show bw r=true
  cases r<;>first|rfl|(simp[iX,dp,Vp]at h)
 |_::_::_,_=>rfl
theorem MR{o:au}{K:St->Prop}(h:q1 P o E K):∃v,bw v=true/\Y P E o v/\K (step E o v):=by
 have gen:qK E o.dst K (qv o E)->∃v,bw v=true/\Y P E o v/\K (step E o v):=by
  intro hq
  cases hv:qv o E with
  |dh v=>rw[hv]at hq;exact⟨v,hq.1,.pure o v (.inl hv),by unfold step;rw[QT (by rw[hv];simp)];exact hq.2⟩
  |fw c v=>rw[hv]at hq;exact⟨v,hq.2.1,.pure o v (.inr ⟨c,hv,hq.1⟩),by unfold step;rw[QT (by rw[hv];simp)];exact hq.2.2⟩
  |no=>rw[hv]at hq;exact hq.elim
 have UW:∀{o:au},qK E o.dst K (EE o E)->∃v,bw v=true/\Y P E o v/\K (step E o v):=by
  intro o hq
  cases hv:EE o E with
  |dh v=>rw[hv]at hq;exact⟨v,hq.1,.XB o v (.inl hv),by unfold step;rw[(SR (.inl hv)).2.2.2];exact hq.2⟩
  |fw c v=>rw[hv]at hq;exact⟨v,hq.2.1,.XB o v (.inr ⟨c,hv,hq.1⟩),by unfold step;rw[(SR (.inr ⟨c,hv,hq.1⟩)).2.2.2];exact hq.2.2⟩
  |no=>rw[hv]at hq;exact hq.elim
 unfold q1 at h
 split at h
 ·rename_i d f args
  cases ha:cq (xg true E) args with
  |none=>rw[ha]at h;exact h.elim
  |some as=>
   rw[ha]at h
   obtain⟨rs,h2,h3,h4⟩:=h
   refine⟨_,oQ h2,.call d f args as rs ha h2 h3,?_⟩
   show K ((b9 E (e7 rs) d).put d (e7 rs))
   grind [oP]
 ·rename_i d x
  obtain⟨h1,h2⟩:=h
  refine⟨_,?_,.oM d x h1,?_⟩
  ·generalize E.x x=av at h1
   cases av<;>first|rfl|grind [dp]
  ·show K ((b9 (E.drain x) (E.x x) d).put d (E.x x))
   grind [Kq]
 ·rename_i d f args t want
  have h:∃g0 b,Rf (look E.e t)=some (g0,b)/\∃rs,iX rs=true/\((g0&&(b==want))=true->∃as,cq (xg (g0&&(b==want)) E) args=some as/\FE P f as E.s rs E.s)/\K (E.put d (.when (g0&&(b==want)) (e7 rs))):=by
   unfold DY at h
   split at h
   ·rename_i b hl;exact⟨true,b,by rw[hl];rfl,h⟩
   ·rename_i g b hl;exact⟨g,b,by rw[hl];rfl,h⟩
   ·exact h.elim
  obtain⟨g0,b,hl,rs,h2,h3,h4⟩:=h
  refine⟨_,rfl,.JB d f args t want g0 b rs hl h2 (fun hb=>by grind),?_⟩
  have:b9 E (.when (g0&&(b==want)) (e7 rs)) d=E:=oP h2 E d
  show K ((b9 E (.when (g0&&(b==want)) (e7 rs)) d).put d (.when (g0&&(b==want)) (e7 rs)))
  grind
 ·rename_i d x args
  cases hx:xg true E x<;>rw[hx]at h<;>try exact h.elim
  rename_i f first gh
  cases ha:cq (xg true E) args with
  |none=>rw[ha]at h;exact h.elim
  |some as=>
   rw[ha]at h
   obtain⟨hf,rs,h2,h3,h4⟩:=h
   refine⟨_,oQ h2,.gw d x args f _ rs ⟨first,gh,as,hx,ha,rfl⟩ hf h2 h3,?_⟩
   show K ((b9 E (e7 rs) d).put d (e7 rs))
   grind [oP]
 ·rename_i d x args t want
  have h:∃g0 b,Rf (look E.e t)=some (g0,b)/\∃rs,iX rs=true/\((g0&&(b==want))=true->∃f as,callee x args (g0&&(b==want)) E f as/\vE P f=true/\FE P f as E.s rs E.s)/\K (E.put d (.when (g0&&(b==want)) (e7 rs))):=by
   unfold BX at h
   split at h
   ·rename_i b hl;exact⟨true,b,by rw[hl];rfl,h⟩
   ·rename_i g b hl;exact⟨g,b,by rw[hl];rfl,h⟩
   ·exact h.elim
  obtain⟨g0,b,hl,rs,h2,h3,h4⟩:=h
  refine⟨_,rfl,.Ci d x args t want g0 b rs hl h2 (fun hb=>by grind),?_⟩
  have:b9 E (.when (g0&&(b==want)) (e7 rs)) d=E:=oP h2 E d
  show K ((b9 E (.when (g0&&(b==want)) (e7 rs)) d).put d (.when (g0&&(b==want)) (e7 rs)))
  grind
 ·exact UW h
 ·exact UW h
 ·exact UW h
 ·exact UW h
 grind
end
theorem gU{i:Nat}:∀{l:List IX},IX.t i∈l->i∈BT l
 |.t j::r,h=>by
  rcases List.mem_cons.1 h with h|h
  ·injection h with h;subst h;exact List.mem_cons_self
  ·exact List.mem_cons_of_mem _ (gU h)
 |.c a::r,h=>by
  rcases List.mem_cons.1 h with h|h
  ·cases h
  ·exact gU (l:=r) h
section
variable{P:Program}{G G':Gh}{n:Nat}{D:List Deferred}{E E':St}{a:Act}{w w':World}
structure Jo(o:au)(E E':St):Prop where
 xs:∀x∈eK o.op,E.x x=E'.x x
 g:∀t want,o.g=some (t,want)->look E.e t=look E'.e t
 s:E.s=E'.s
 rd:∀x∈eK o.op,∀g n,rd E (AB.xg g E x) n=rd E' (AB.xg g E x) n
theorem Jo.symm{o:au}(h:Jo o E E'):Jo o E' E:=⟨fun x hx=>(h.xs x hx).symm,fun t w hg=>(h.g t w hg).symm,h.s.symm,fun x hx g n=>by
 have e:AB.xg g E' x=AB.xg g E x:=by unfold AB.xg;rw[h.xs x hx]
 rw[e];exact(h.rd x hx g n).symm⟩
theorem Jo.xg{o:au}(h:Jo o E E')(g:Bool):∀x∈eK o.op,xg g E x=xg g E' x:=fun x hx=>by unfold AB.xg;rw[h.xs x hx]
theorem Jo.qv{o:au}(h:Jo o E E'):qv o E=qv o E':=by
 have hp:∀g,pv o.op (AB.xg g E) E=pv o.op (AB.xg g E') E':=fun g=>SL (h.xg g) h.xs h.s fun x hx n=>h.rd x hx g n
 unfold AB.qv
 cases hg:o.g with
 |none=>exact hp true
 |some tw=>
  obtain⟨t,want⟩:=tw
  show K5 o.op want E (look E.e t)=K5 o.op want E' (look E'.e t)
  rw[h.g t want hg]
  unfold K5
  grind
theorem Jo.qe{o:au}(h:Jo o E E')(g:Bool):qe (AB.xg g E) E.s o.op=qe (AB.xg g E') E'.s o.op:=by
 have hx:=h.xg g
 have hs:=h.s
 obtain⟨d,op,gg⟩:=o
 cases op<;>first|rfl|skip
 case gy x=>show uT (AB.xg g E x)=uT (AB.xg g E' x);grind [eK]
 case gr sz n z ps=>show D7 sz n (fill (AB.xg g E) z ps)=D7 sz n (fill (AB.xg g E') z ps);rw[xf ps z hx]
 case qt x=>show AH (AB.xg g E x)=AH (AB.xg g E' x);grind [eK]
 case kz x=>show BF (AB.xg g E x)=BF (AB.xg g E' x);grind [eK]
theorem Jo.EE{o:au}(h:Jo o E E'):EE o E=EE o E':=by
 unfold AB.EE
 cases hg:o.g with
 |none=>exact h.qe true
 |some tw=>
  obtain⟨t,want⟩:=tw
  show Ot o.op want E (look E.e t)=Ot o.op want E' (look E'.e t)
  rw[h.g t want hg]
  unfold Ot
  split
  ·rw[h.qe]
  ·rw[h.qe]
  ·rfl
theorem Y.LJ{o:au}{v:AV}(hy:Y P E o v)(h:Jo o E E'):Y P E' o v:=by
 cases hy with
 |pure _ _ hq=>exact .pure o v (by rw[<-h.qv];exact hq)
 |oM d x hi=>
  have hx:E.x x=E'.x x:=h.xs x (by simp[eK])
  rw[hx]at hi⊢
  exact .oM d x hi
 |call d f args as rs h1 h2 h3=>exact .call d f args as rs (by rw[<-gS args (h.xg true)];exact h1) h2 (by rw[<-h.s];exact h3)
 |JB d f args t want g0 b rs h0 h2 h1=>
  refine .JB d f args t want g0 b rs (by rw[<-h.g t want rfl];exact h0) h2 fun hb=>?_
  obtain⟨as,q1,q2⟩:=h1 hb
  exact⟨as,by rw[<-gS args (h.xg true)];exact q1,by rw[<-h.s];exact q2⟩
 |gw d x args f as rs h1 hf h2 h3=>
  obtain⟨first,gh,xs,q1,q2,q3⟩:=h1
  exact .gw d x args f as rs ⟨first,gh,xs,by rw[<-h.xg true x List.mem_cons_self];exact q1,by rw[<-gS args fun y hy=>h.xg true y (List.mem_cons_of_mem _ hy)];exact q2,q3⟩ hf h2 (by rw[<-h.s];exact h3)
 |Ci d x args t want g0 b rs h0 h2 h1=>
  refine .Ci d x args t want g0 b rs (by rw[<-h.g t want rfl];exact h0) h2 fun hb=>?_
  obtain⟨f,as,⟨first,gh,xs,q1,q2,q3⟩,q4,q5⟩:=h1 hb
  exact⟨f,as,⟨first,gh,xs,by rw[<-h.xg true x List.mem_cons_self];exact q1,by rw[<-gS args fun y hy=>h.xg true y (List.mem_cons_of_mem _ hy)];exact q2,q3⟩,q4,by rw[<-h.s];exact q5⟩
 |XB _ _ hq=>exact .XB o v (by rw[<-h.EE];exact hq)
theorem VF(o:au)(i:Nat):look (dr o E).e i=if jC o i=true then view (look E.e i)else look E.e i:=by
 unfold dr jC
 split
 ·rename_i x hop
  cases x with
  |c a=>simp only[hop];rfl
  |t j=>
   simp only[hop]
   show look ((j,view (look E.e j))::E.e) i=_
   grind [aX]
 grind
theorem iG(o:au)(v:AV)(i:Nat):look (step E o v).e i=if o.dst=some i then v else if jC o i=true then view (look E.e i)else look E.e i:=by
 unfold step
 rw[<-VF]
 cases hd:o.dst with
 |none=>grind [St.put,iV,dr]
 |some d=>
  show look ((d,v)::(b9 (dr o E) v (some d)).e) i=_
  grind [aX,iV,dr]
theorem adD(o:au):(dr o E).s=E.s/\(dr o E).lp=E.lp:=by
 unfold dr
 split
 ·rename_i x _
  cases x<;>exact⟨rfl,rfl⟩
 grind
theorem Ei(o:au)(v:AV):(step E o v).s=E.s:=by
 unfold step
 have:∀(τ:St)(d:Option Nat)(x:AV),(τ.put d x).s=τ.s:=fun τ d x=>by cases d<;>rfl
 grind [iV,dr,adD]
theorem KS(av:AV):bw (view av)=bw av:=by cases av<;>rfl
theorem D1(av:AV)(n off:Nat):lr n off (view av)=lr n off av:=by cases av<;>rfl
theorem jz{av:AV}(h:bw av=true)(n off:Nat):lr n off av=none:=by cases av<;>first|rfl|(simp[bw]at h)
theorem Wq{o:au}{v:AV}(hf:bn E o.dst=true)(hv:bw v=true):∀p n,rd (step E o v) p n=rd E p n:=by
 intro p n
 cases p<;>try rfl
 ·rename_i b off
  show su n off ((step E o v).s b)=su n off (E.s b)
  rw[Ei]
 ·rename_i d off
  show lr n off (look (step E o v).e d)=lr n off (look E.e d)
  rw[iG]
  by_cases hd:o.dst=some d
  ·rw[if_pos hd,jz hv]
   rw[hd]at hf
   exact(jz hf n off).symm
  ·rw[if_neg hd]
   grind [D1]
theorem Js{o y:au}{v:AV}(hf:bn E y.dst=true)(hv:bw v=true)(hn:gV y.dst (cm o)=true)(hdr:Sk y o=true):Jo o E (step E y v):=by
 have key:∀i,i∈cm o->look (step E y v).e i=look E.e i:=by
  intro i hi
  have h1:¬jC y i=true:=by
   have:=List.all_eq_true.1 hdr i hi
   simpa using this
  rw[iG,if_neg,if_neg h1]
  intro hd
  rw[hd]at hn
  simp[gV]at hn
  exact hn hi
 refine⟨fun x hx=>?_,fun t want hg=>?_,(Ei y v).symm,fun x _ g n=>(Wq hf hv _ n).symm⟩
 ·cases x with
  |c a=>rfl
  |t i=>exact(key i (List.mem_append_right _ (gU hx))).symm
 ·exact(key t (List.mem_append_left _ (by rw[hg];exact List.mem_cons_self))).symm
structure lf(E E':St):Prop where
 e:∀i,look E.e i=look E'.e i
 lp:∀x,x∈E.lp↔x∈E'.lp
 s:E.s=E'.s
theorem lf.refl(E:St):lf E E:=⟨fun _=>rfl,fun _=>Iff.rfl,rfl⟩
theorem lf.symm(h:lf E E'):lf E' E:=⟨fun i=>(h.e i).symm,fun x=>(h.lp x).symm,h.s.symm⟩
theorem lf.trans{E₃:St}(h:lf E E')(k:lf E' E₃):lf E E₃:=⟨fun i=>(h.e i).trans (k.e i),fun x=>(h.lp x).trans (k.lp x),h.s.trans k.s⟩
theorem lf.rd(h:lf E E'):∀p n,AB.rd E p n=AB.rd E' p n:=by
 intro p n
 cases p<;>try rfl
 ·rename_i b off
  show su n off (E.s b)=su n off (E'.s b)
  rw[h.s]
 ·rename_i d off
  show lr n off (look E.e d)=lr n off (look E'.e d)
  rw[h.e]
theorem lf.LJ(h:lf E E')(o:au):Jo o E E':=⟨fun x _=>by cases x with
 |c a=>rfl
 |t i=>exact h.e i,fun t _ _=>h.e t,h.s,fun x _ g n=>h.rd _ n⟩
theorem lf.free(h:lf E E')(d:Option Nat):bn E d=bn E' d:=by
 cases d with
 |none=>rfl
 |some d=>show bw (look E.e d)=bw (look E'.e d);rw[h.e]
theorem DB:∀(v:AV)(d:Option Nat)(x:Nat×Nat),x∈(b9 E v d).lp↔(x∈E.lp\/∃i,d=some i/\x.1=i/\bD v x.2)
 |.lp t off,some i,(x1,x2)=>by
  show(x1,x2)∈(i,t)::E.lp↔_
  rw[List.mem_cons]
  constructor
  ·rintro(h|h)
   ·injection h with h1 h2;exact .inr ⟨i,rfl,h1,h2.symm⟩
   grind
  ·rintro(h|⟨j,h1,h2,h3⟩)
   ·exact .inr h
   ·injection h1 with h1
    have h3':t=x2:=h3
    grind
 |.lp t off,none,x=>⟨fun h=>.inl h,fun h=>h.elim id fun⟨_,h1,_⟩=>by cases h1⟩
 |.when _ v,d,x=>DB v d x
 |.undef,_,_|.bool _,_,_|.int _ _,_,_|.str _,_,_|.fj,_,_|.ref _ _,_,_|.sp _,_,_|.loc _,_,_|.sl _ _ _ _,_,_|.arr _ _ _ _,_,_|.agg _,_,_|.iP _,_,_|.fn _ _ _,_,_|.py,_,_|.mp _,_,_|.ud,_,_|.us _ _ _,_,_|.one,_,_|.m6 _,_,_|.kQ,_,_|.bb _ _ _,_,_=>⟨fun h=>.inl h,fun h=>h.elim id fun⟨_,_,_,h3⟩=>h3.elim⟩
theorem I1(o:au)(v:AV)(x:Nat×Nat):x∈(step E o v).lp↔(x∈E.lp\/∃i,o.dst=some i/\x.1=i/\bD v x.2):=by
 have h1:(step E o v).lp=(b9 (dr o E) v o.dst).lp:=by unfold step;cases o.dst<;>rfl
 grind [adD,DB]
theorem Inv.eqv(h:Inv G n D E a w)(k:lf E E'):Inv G n D E' a w:=
 ⟨h.bj,by rw[<-k.s];exact h.store,h.size,fun i v hv=>by
   rw[<-k.e i]
   exact dc.frame (fun _ _ hv=>hv) (fun b _=>⟨rfl,rfl,rfl⟩) (fun _ _ _ _ hc=>⟨hc,rfl,rfl⟩) _ _ (fun t _ cs hcs=>⟨cs,by rw[k.e];exact hcs,rfl⟩) (h.cm i v hv),
   fun i hi=>by rw[<-k.e i];exact h.EI i hi,fun i t ht=>(k.lp _).1 (h.LA i t (by rw[k.e];exact ht)),h.pO⟩
theorem lf.step(h:lf E E')(o:au)(v:AV):lf (AB.step E o v) (AB.step E' o v):=⟨fun i=>by rw[iG,iG,h.e],fun x=>by rw[I1,I1,h.lp],by rw[Ei,Ei,h.s]⟩
theorem P8{x y:au}{u v:AV}(hne:∀i j,x.dst=some i->y.dst=some j->i≠j)(hxy:∀i,y.dst=some i->jC x i=false)(hyx:∀i,x.dst=some i->jC y i=false):lf (step (step E x u) y v) (step (step E y v) x u):=
 ⟨fun i=>by
   rw[iG,iG,iG,iG]
   grind,fun z=>by
   grind [I1],by grind [Ei]⟩
end
end Go.AB
end
