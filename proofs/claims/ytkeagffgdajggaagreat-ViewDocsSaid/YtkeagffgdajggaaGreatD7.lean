/- A part of the proof. -/
import Derived.Test.YtkeagffgdajggaaGreatD6
import Derived.Test.YtkeagffgdajggaaGreatD5
import Derived.Lib.Builder
import Derived.Tactics
import Derived.Scope
set_option linter.unusedSimpArgs false
set_option linter.unusedVariables false
section
namespace Go.AB
open Go
section
variable{P:Program}{G G':Gh}{n:Nat}{D:List Deferred}{E:St}{a:Act}{w w':World}
theorem Inv.frozen(h:Inv G n D E a w){d:Option Nat}(hd:bz n d=true){b off sz k cap:Nat}{cs:List AV}{own:Bool}(hs:E.s b=some (.cells cs))(dX:off+k*sz<=cs.length)(iG:k<=cap)(uG:own=true->off=0/\cs.length=off+cap*sz):
 ∃G',Inv G' n D ({E with s:=E.s.del b}.put d (.sl own sz k (views (AB.sub cs off (k*sz))))) (a.put d (.slice (some ⟨b,off,none⟩) k cap)) w/\aC G w G' w:=by
 obtain⟨q2,q3,c,t,q4,q5,q6⟩:=h.store b _ hs
 let ob:c7:=if own=true then Sr d else .none
 let G':=G.sR b ob (off+k*sz)
 have bA:aC G w G' w:=⟨rfl,rfl,rfl,Nat.le_refl _,Nat.le_refl _,fun b' _=>by
  by_cases hb:b'=b
  ·subst hb;rw[q3];exact Nat.zero_le _
  ·simp[G',hb],fun _ _ _ _=>rfl,fun _ _ _=>rfl,fun b' _ hb'=>by
  have:b'≠b:=fun e=>by subst e;rw[q2]at hb';cases hb'
  simp[G',this,hb'],fun b' _ hb'=>by
  have:b'≠b:=fun e=>by subst e;rw[q2]at hb';cases hb'
  simp[G',this,hb']⟩
 have hlt:b<w.heap.size:=h.aV.lt (by rw[q2];simp)
 have nL:cw G' w:=⟨fun b' hb'=>by
  have:b'≠b:=by omega
  simp[G',this,h.aV.kS b' hb'],fun b' hb'=>by
  have:b'≠b:=by omega
  simp[G',this,h.aV.kU b' hb']⟩
 have same:∀b',G.O b'≠.sh\/b'≠b->G'.O b'=G.O b'/\G'.R b'=G.R b'/\w.heap[b']? =w.heap[b']? :=fun b' hb'=>by
  have:b'≠b:=by
   rcases hb' with hb'|hb'
   ·exact fun e=>by subst e;exact hb' q2
   ·exact hb'
  exact⟨by simp[G',this],by simp[G',this],rfl⟩
 have hst:aW G' w (E.s.del b):=by
  intro b' o hb'
  unfold ab.del at hb'
  split at hb'
  ·cases hb'
  ·rename_i hne
   obtain⟨r1,r2,r3⟩:=h.store b' o hb'
   refine⟨(same b' (.inr hne)).1.trans r1,(same b' (.inr hne)).2.1.trans r2,?_⟩
   cases o with
   |cells cs'=>
    obtain⟨c',t',r4,r5,r6⟩:=r3
    exact⟨c',t',r4,r5.mono (fun _ _ hv=>bA.vr h.aV hv) (fun b'' j rp=>by
     obtain⟨x1,x2,x3⟩:=same b'' (.inl (by rw[rp];simp))
     exact⟨x1.trans rp,x2,x3⟩),r6⟩
   |map es=>
    obtain⟨js,clock,r4,r5,r6⟩:=r3
    exact⟨js,clock,r4,r5,fun j x y hx hy=>⟨bA.vr h.aV (r6 j x y hx hy).1,bA.vr h.aV (r6 j x y hx hy).2⟩⟩
 have hat:=h.store.at hs dX
 obtain⟨u,u1,u2,u3⟩:=hat
 have hlen:(views (AB.sub cs off (k*sz))).length=k*sz:=by simp only[views,List.length_map];exact kl dX
 have:=h.put (s':=E.s.del b) (lp':=E.lp) d (fun i hi=>by subst hi;simpa[bz]using hd) (.sl own sz k (views (AB.sub cs off (k*sz)))) (.slice (some ⟨b,off,none⟩) k cap) nL bA hst (fun _ hx=>hx) (fun i t _ ht=>ht.elim) (fun i t _⟨cs',Ev⟩=>by cases Ev)
  (fun i b' _ hb'=>same b' (.inl (by rcases hb' with⟨j,hb'⟩|hb'<;>rw[hb']<;>simp)))
  (fun i b' c' j _ _ hc'=>by
    obtain⟨x1,x2,x3⟩:=same c' (.inl (by rw[hc'];simp))
    exact⟨x1.trans hc',x2,x3⟩)
  (fun i hi=>by
    subst hi
    refine⟨.sl own sz k _ b off cap u u3 hlen (by rw[hlen];simp[G']) iG u1 (fun j x hj=>bA.vr h.aV (u2 j x hj)),?_⟩
    cases own with
    |false=>trivial
    |true=>
     intro base m' dy hv _
     injection hv with e1 e2 e3
     subst e3
     exact⟨b,off,c,t,(0,0),e1.symm,by simp[G',ob,Sr],by simp[G'],q4,by rw[q5.1,(uG rfl).2],fun j _ hj=>by simp at hj,Nat.le_refl _,(uG rfl).1,.inl rfl,fun j y _ hy=>by
      have hlt:j<cs.length:=by rw[<-q5.1];exact(Array.getElem?_eq_some_iff.1 hy).1
      exact sK (q6 _ (List.getElem_mem hlt)) (q5.2 j _ y (List.getElem?_eq_getElem hlt) hy).1⟩)
 exact⟨G',by cases d<;>exact this,bA⟩
theorem Inv.Wv(h:Inv G n D E a w){sz:Nat}{own:Bool}{d:Option Nat}{K:St->Prop}(hd:bz n d=true){xv:AV}{v:Value}(hbx:dF xv=true->VR w G.R xv v)(hw':Et sz own E d K xv):∃(G':Gh)(E':St),Inv G' n D E' (a.put d v) w/\aC G w G' w/\K E':=by
 unfold Et at hw'
 split at hw'<;>try(exact hw'.elim)
 rename_i b off k cap
 replace hbx:=hbx rfl
 have empty:k=0->cap=0->off=0\/v=.slice none 0 0->Inv G n D (E.put d (.sl own sz 0 [])) (a.put d (v)) w:=by
  intro hk0 hc0 akq
  subst hk0;subst hc0
  have hvr:VR w G.R (.sl own sz 0 []) (v):=by
   rcases VR.cj hbx with e1|⟨_,_,e1⟩
   ·rcases akq with rfl|e2
    ·rw[e1];exact .sl own sz 0 [] b 0 0 (fun _=>undef) Fl.nil (by simp) (by simp) (Nat.le_refl _) (fun j c hj=>by simp at hj) (fun j c hj=>by simp at hj)
    ·rw[e2];exact .slnil _ _
   ·rw[e1];exact .slnil _ _
  have:=h.put (s':=E.s) (lp':=E.lp) d (fun i hi=>by subst hi;simpa[bz]using hd) (.sl own sz 0 []) (v) h.aV (aC.refl G w) h.store (fun _ hx=>hx) (fun i t _ ht=>ht.elim) (fun i t _⟨cs,hcs⟩=>by cases hcs)
   (fun _ _ _ _=>⟨rfl,rfl,rfl⟩) (fun _ _ _ _ _ _ hcc=>⟨hcc,rfl,rfl⟩) (fun i hdi=>by
     refine⟨hvr,?_⟩
     cases own with
     |false=>trivial
     |true=>
      intro base m' dy hv hc'
      rcases VR.cj hbx with e1|⟨_,_,e1⟩<;>rw[e1]at hv<;>injection hv with _ e2 e3<;>omega)
  cases d<;>exact this
 rcases hw' with⟨rfl,rfl,rfl,hk⟩|⟨oZ,iG,uG,hk⟩
 ·exact⟨G,_,empty rfl rfl (.inl rfl),aC.refl G w,hk⟩
 ·cases hca:ki k sz off (E.s b)with
  |none=>rw[hca]at hk;exact hk.elim
  |some q=>
   obtain⟨q1,q2⟩:=q
   rw[hca]at hk
   obtain⟨cs,e1,e2,rfl,rfl⟩:=tc hca
   have Gy:own=true->off=0/\cs.length=off+cap*sz:=fun ho=>by
    have:=(uG ho).2.2
    rw[e1]at this
    exact⟨(uG ho).1,this⟩
   obtain⟨G',h1,h2⟩:=h.frozen hd (own:=own) e1 e2 iG Gy
   have e3:=VR.tu hbx oZ
   exact⟨G',_,by rw[e3];exact h1,h2,hk⟩
theorem Zc(h:Inv G n D E a w){op:Op}{ty:TypeId}{sz:Nat}{own:Bool}{x:IX}{d:Option Nat}{K:St->Prop}(hd:bz n d=true)(hc:aq P op ty (.UB sz own x)=true)(hw:jB P (.UB sz own x) d E K):rS P G n D w a op ty d K:=by
 have key:∀y,bP y x=true->∃(G':Gh)(E':St),Inv G' n D E' (a.put d (a.eval y)) w/\aC G w G' w/\K E':=by
  intro y hy
  have hbx:=XR.aR h hy
  have hw':Et sz own E d K (E.x x):=hw
  generalize E.x x=xv at hw' hbx
  refine h.Wv hd (fun hi=>?_) hw'
  cases xv<;>first|exact hbx|(simp[dF]at hi)
 intro pos after g next Q hn
 cases op<;>first|(simp[aq]at hc;done)|skip
 all_goals
  rename_i y
  obtain⟨G',E',h1,h2,hk⟩:=key y hc
  exact a8 rfl (hn G' _ _ _ h1 h2 hk)
theorem Uw(h:Inv G n D E a w){op:Op}{ty:TypeId}{sz:Nat}{own:Bool}{x:IX}{d:Option Nat}{K:St->Prop}(hd:bz n d=true)(hc:aq P op ty (.yU sz own x)=true)(hw:jB P (.yU sz own x) d E K):rS P G n D w a op ty d K:=by
 cases op<;>first|(simp[aq]at hc;done)|skip
 rename_i t y
 simp only[aq,Bool.and_eq_true]at hc
 obtain⟨⟨hs,hm⟩,hy⟩:=hc
 have hb:=BR.aR h hy
 have hw':Nb sz own E d K (rd E (xg true E x) 1):=hw
 cases hr:rd E (xg true E x) 1 with
 |none=>rw[hr]at hw';exact hw'.elim
 |some cs=>
  rw[hr]at hw'
  obtain⟨b,off,e,hl,hat,hvw⟩:=H7 h hb hr
  match cs,hl,hw' with
  |[c],hl,⟨hi,hw'⟩=>
   obtain⟨v,b9,hvr⟩:=rv hs hm rfl hl hat
   obtain⟨G',E',h1,h2,hk⟩:=h.Wv hd (v:=v) (fun _=>hvr) hw'
   intro pos after g next Q hn
   exact a8 (w':=w) (by simp[execOp,e,Instr.loadAt,Instr.sureAddr,b9]) (hn G' _ _ _ h1 h2 hk)
theorem IA(h:Inv G n D E a w)(bl off:Nat)(T:c7)(hT:T≠.sh/\(∀i,T≠.loc i)/\(∀i j,T≠.cell i j)):
 cw (G.lD (.cell bl off) T) w/\aC G w (G.lD (.cell bl off) T) w/\(∀b,G.O b≠.cell bl off->(G.lD (.cell bl off) T).O b=G.O b):=by
 have hne:∀b,G.O b≠.cell bl off->(G.lD (.cell bl off) T).O b=G.O b:=fun b hb=>by simp[hb]
 exact⟨⟨fun b hb=>by rw[hne b (by rw[h.aV.kS b hb];simp),h.aV.kS b hb],h.aV.kU⟩,
  ⟨rfl,rfl,rfl,Nat.le_refl _,Nat.le_refl _,fun _ _=>Nat.le_refl _,fun _ _ _ _=>rfl,fun _ _ _=>rfl,fun b _ hb=>⟨by rw[hne b (by rw[hb];simp),hb],rfl⟩,fun b _ hb=>⟨by rw[hne b (by rw[hb];simp),hb],rfl⟩⟩,hne⟩
theorem dx.lD{o T:c7}{av:AV}{v:Value}(h:dx G w o av v):dx (G.lD o T) w T av v:=by
 unfold dx at h⊢
 split
 ·rename_i sz m cs
  intro base m' cap hv hc
  obtain⟨b,off,c,e,fz,q1,q2,q3⟩:=h base m' cap hv hc
  exact⟨b,off,c,e,fz,q1,by simp[q2],q3⟩
 ·rename_i e m cs
  intro base m' cap hv hc
  obtain⟨b,off,c,fz,q1,q2,q3⟩:=h base m' cap hv hc
  exact⟨b,off,c,fz,q1,by simp[q2],q3⟩
 ·trivial
def Jt:AV->Bool
 |.sl _ _ _ _=>true
 |.bb _ _ _=>true
 |_=>false
theorem Lk{av:AV}(h:Jt av=true):sc (view av)=true:=by cases av<;>first|rfl|(cases h;done)
theorem dG.take{bl off:Nat}{T:c7}{cs:List AV}{c:Array Value}{av:AV}(h:dG G w (.cell bl) cs c)(hcs:cs[off]? =some av):
 dG (G.lD (.cell bl off) T) w (.cell bl) (setAt cs off [view av]) c:=by
 have hlt:off+1<=cs.length:=(List.getElem?_eq_some_iff.1 hcs).1
 refine⟨by rw[ni _ _ _ (by simpa using hlt)];exact h.1,fun j x y hx hy=>?_⟩
 rw[pD _ _ _ _ (by simpa using hlt)]at hx
 by_cases hj:j=off
 ·subst hj
  rw[if_pos ⟨Nat.le_refl _,by simp⟩,Nat.sub_self]at hx
  injection hx with hx;subst hx
  exact⟨(h.2 j _ y hcs hy).1.view,dx.view ..⟩
 ·rw[if_neg (by simp;omega)]at hx
  obtain⟨h1,h2⟩:=h.2 j x y hx hy
  refine⟨h1,h2.mono fun b hb=>⟨?_,rfl,rfl⟩⟩
  have:G.O b≠.cell bl off:=by rw[hb];intro e;injection e with _ e;exact hj e
  rw[Gh.aas,if_neg this,hb]
def loadT:Option Nat->c7
 |some i=>.slot i 0
 |none=>.frame
theorem K0(h:Inv G n D E a w){op:Op}{ty:TypeId}{x:IX}{d:Option Nat}{K:St->Prop}(hd:bz n d=true)(hc:aq P op ty (.jq x)=true)(hw:jB P (.jq x) d E K):rS P G n D w a op ty d K:=by
 cases op<;>first|(simp[aq]at hc;done)|skip
 rename_i t y
 simp only[aq,Bool.and_eq_true]at hc
 obtain⟨⟨⟨_,hs⟩,hm⟩,hy⟩:=hc
 have hbx:=XR.aR h hy
 have hw':oz E d K (E.x x):=hw
 have hT:loadT d≠.sh/\(∀i,loadT d≠.loc i)/\(∀i j,loadT d≠.cell i j):=by cases d<;>simp[loadT]
 have b9:∀(b off:Nat)(u:Value),a.eval y=.pointer (some ⟨b,off,none⟩)->w.cell? ⟨b,off,none⟩=some u->∀(pos:String)(after:Array Edge)(g:Option (Nat×Bool)),(execOp a.eval ⟨d,.load t y,ty,pos,after,g⟩).run P w=.ok (.value u) w:=by
  intro b off u e1 e2 pos after g
  have:(loadVar t ⟨b,off,none⟩).run P w=.ok u w:=by simp[loadVar,xG hm,e2]
  simp[execOp,e1,Instr.loadAt,Instr.sureAddr,this]
 have ahI:∀{G1:Gh}{σ1:St}{av:AV}{u:Value},Jt av=true->Inv G1 n D σ1 a w->VR w G1.R av u->dx G1 w (loadT d) av u->Inv G1 n D (σ1.put d av) (a.put d u) w:=by
  intro G1 σ1 av u hsl h1 hv ho
  have hiv:dF av=true:=by cases av<;>first|rfl|(cases hsl;done)
  have:=h1.put (s':=σ1.s) (lp':=σ1.lp) d (fun i hi=>by subst hi;simpa[bz]using hd) av u h1.aV (aC.refl G1 w) h1.store (fun _ hx=>hx) (fun i t _ ht=>(fc hiv t ht).elim) (fun i t _⟨cs,hcs⟩=>(pk hiv cs hcs).elim)
   (fun _ _ _ _=>⟨rfl,rfl,rfl⟩) (fun _ _ _ _ _ _ hcc=>⟨hcc,rfl,rfl⟩) (fun i hdi=>by subst hdi;rw[dt.rA hiv];exact⟨hv,ho⟩)
  cases d<;>exact this
 have Yo:∀{off:Nat}{cs:List AV}{k:List AV->AV->Prop},sQ off cs k->∃av,Jt av=true/\cs[off]? =some av/\k (setAt cs off [view av]) av:=by
  intro off cs k hk
  unfold sQ at hk
  split at hk
  ·rename_i ow sz m ds he;exact⟨_,rfl,he,hk⟩
  ·rename_i t m ds he;exact⟨_,rfl,he,hk⟩
  ·exact hk.elim
 have Yp:∀{off:Nat}{cs:List AV}{k:List AV->AV->Prop},qY off cs k->∃av,Jt av=true/\cs[off]? =some av/\k (setAt cs off [view av]) av:=by
  intro off cs k hk
  unfold qY at hk
  split at hk
  ·rename_i ow sz m ds he;exact⟨_,rfl,he,hk⟩
  ·exact hk.elim
 generalize E.x x=xv at hw' hbx
 unfold oz at hw'
 split at hw'<;>try(exact hw'.elim)
 ·rename_i b off
  have e1:=VR.jl hbx
  cases hsb:E.s b with
  |none=>rw[hsb]at hw';exact hw'.elim
  |some so=>
   cases so with
   |map es=>rw[hsb]at hw';exact hw'.elim
   |cells cs=>
   rw[hsb]at hw'
   obtain⟨av,hsl,hcs,hk⟩:=Yo hw'
   obtain⟨q2,q3,c,et,q4,q5,q6⟩:=h.store b _ hsb
   have hlt:off<cs.length:=(List.getElem?_eq_some_iff.1 hcs).1
   have acS:off<c.size:=by rw[q5.1];exact hlt
   have dW:=Array.getElem?_eq_getElem acS
   obtain⟨hv,ho⟩:=q5.2 off _ _ hcs dW
   obtain⟨g1,g2,hne⟩:=IA h b off (loadT d) hT
   have hst:aW (G.lD (.cell b off) (loadT d)) w (E.s.set b (.cells (setAt cs off [view av]))):=by
    intro b' o hb'
    unfold ab.set at hb'
    by_cases hbg:b'=b
    ·rw[if_pos hbg]at hb';injection hb' with hb';subst hb';subst hbg
     exact⟨by rw[hne b' (by rw[q2];simp),q2],q3,c,et,q4,q5.take hcs,Dy.setAt q6 (by intro z hz;rw[List.mem_singleton]at hz;subst hz;exact Lk hsl) off⟩
    ·rw[if_neg hbg]at hb'
     obtain⟨r1,r2,r3⟩:=h.store b' o hb'
     refine⟨by rw[hne b' (by rw[r1];simp),r1],r2,?_⟩
     cases o with
     |cells cs'=>
      obtain⟨c0,t0,r4,r5,r6⟩:=r3
      exact⟨c0,t0,r4,r5.mono (fun _ _ hv=>hv) (fun b'' j rp=>⟨by rw[hne b'' (by rw[rp];intro e;injection e with e _;exact hbg e),rp],rfl,rfl⟩),r6⟩
     |map es=>exact r3
   have h1:Inv (G.lD (.cell b off) (loadT d)) n D {E with s:=E.s.set b (.cells (setAt cs off [view av]))} a w:=
    ⟨g1,hst,h.size,fun k v hkv=>dt.frame (G:=G) (G':=G.lD (.cell b off) (loadT d)) (w:=w) (w':=w) (tmps:=a.tmps) (T2:=a.tmps) (fun _ _ hv=>hv) (fun b' hb'=>⟨hne b' (by rcases hb' with⟨j,hb'⟩|hb'<;>rw[hb']<;>simp),rfl,rfl⟩)
      (fun b' c' j hb' hc'=>⟨by rw[hne c' (by rw[hc'];intro e;injection e with e _;subst e;rw[q2]at hb';cases hb'),hc'],rfl,rfl⟩) _ _ (fun d _ cs hcs=>⟨cs,hcs,rfl⟩) (h.cy k v hkv),h.Jj,h.Rj,h.uE⟩
   intro pos after g next Q hn
   exact a8 (b9 b off _ e1 (by rw[cell_of_row w q4,dW]) pos after g) (hn _ _ _ _ (ahI hsl h1 hv ho.lD) g2 hk)
 ·rename_i i off
  cases hl:look E.e i<;>rw[hl]at hw'<;>first|exact hw'.elim|skip
  rename_i cs
  obtain⟨hdi,hw'⟩:=hw'
  obtain⟨av,hsl,hcs,hk⟩:=Yp hw'
  obtain⟨b,e1,e2⟩:=hbx
  have htm:=e2 cs hl
  have DN:=h.cy i _ htm
  rw[hl]at DN
  obtain⟨b',c,et,p1,p2,p3,p4,p5,p6⟩:=DN
  injection p1 with p1;injection p1 with p1;injection p1 with p1 _ _
  subst p1
  have hlt:off<cs.length:=(List.getElem?_eq_some_iff.1 hcs).1
  have acS:off<c.size:=by rw[p5.1];exact hlt
  have dW:=Array.getElem?_eq_getElem acS
  obtain⟨hv,ho⟩:=p5.2 off _ _ hcs dW
  obtain⟨g1,g2,hne⟩:=IA h b off (loadT d) hT
  have hst:aW (G.lD (.cell b off) (loadT d)) w E.s:=h.store.mono h.aV g2 (fun b' hb'=>⟨by rw[hne b' (by rw[hb'];simp),hb'],rfl,rfl⟩)
   (fun b' c' j hb' hc'=>⟨by rw[hne c' (by rw[hc'];intro e;injection e with e _;subst e;rw[p2]at hb';cases hb'),hc'],rfl,rfl⟩)
  have h1:Inv (G.lD (.cell b off) (loadT d)) n D (E.put (some i) (.loc (setAt cs off [view av]))) a w:=by
   refine⟨g1,hst,h.size,fun k v hkv=>?_,fun k hk'=>?_,fun k d' hk'=>?_,h.uE⟩
   ·by_cases hki:i=k
    ·subst hki
     have:look (E.put (some i) (.loc (setAt cs off [view av]))).e i=.loc (setAt cs off [view av]):=by simp[St.put,aQ]
     rw[this]
     rw[htm]at hkv;injection hkv with hkv;subst hkv
     exact⟨b,c,et,rfl,by rw[hne b (by rw[p2];simp),p2],p3,p4,p5.take hcs,Fl.setAt p6 (by intro z hz;rw[List.mem_singleton]at hz;subst hz;exact Lk hsl) off⟩
    ·have:look (E.put (some i) (.loc (setAt cs off [view av]))).e k=look E.e k:=by simp[St.put,aQ,hki]
     rw[this]
     refine dt.frame (G:=G) (G':=G.lD (.cell b off) (loadT d)) (w:=w) (w':=w) (tmps:=a.tmps) (T2:=a.tmps) (fun _ _ hv=>hv) (fun b' hb'=>⟨hne b' (by rcases hb' with⟨j,hb'⟩|hb'<;>rw[hb']<;>simp),rfl,rfl⟩)
      (fun b' c' j hb' hc'=>⟨by rw[hne c' (by rw[hc'];intro e;injection e with e _;subst e;rw[p2]at hb';injection hb' with hb';exact hki hb'),hc'],rfl,rfl⟩) _ _ (fun d' _ cs' Ev=>?_) (h.cy k v hkv)
     by_cases hdi':i=d'
     ·subst hdi';exact⟨cs,hl,rfl⟩
     ·simp only[St.put,aQ,hdi',if_false]at Ev
      exact⟨cs',Ev,rfl⟩
   ·by_cases hki:i=k
    ·subst hki
     have:=h.Jj i hk'
     rw[hl]at this;cases this
    ·simp only[St.put,aQ,hki,if_false];exact h.Jj k hk'
   ·by_cases hki:i=k
    ·subst hki
     simp only[St.put,aQ,if_true]at hk'
     exact hk'.elim
    ·simp only[St.put,aQ,hki,if_false]at hk'
     exact h.Rj k d' hk'
  intro pos after g next Q hn
  exact a8 (b9 b off _ e1 (by rw[cell_of_row w p4,dW]) pos after g) (hn _ _ _ _ (ahI hsl h1 hv ho.lD) g2 hk)
theorem Uv(h:Inv G n D E a w){op:Op}{ty:TypeId}{off:Nat}{j x:IX}{d:Option Nat}{K:St->Prop}(hd:bz n d=true)(hc:aq P op ty (.mL off j x)=true)(hw:jB P (.mL off j x) d E K):rS P G n D w a op ty d K:=by
 have hc':aq P op ty (.jq x)=true:=by cases op<;>first|exact hc|(cases hc;done)
 exact K0 h hd hc' hw.2
theorem Zb(h:Inv G n D E a w){op:Op}{ty:TypeId}{ne:Bool}{x:IX}{d:Option Nat}{K:St->Prop}(hd:bz n d=true)(hc:aq P op ty (.YI ne x)=true)(hw:jB P (.YI ne x) d E K):rS P G n D w a op ty d K:=by
 cases op<;>first|(simp[aq]at hc;done)|skip
 rename_i b t u v yt
 simp only[aq,Bool.and_eq_true,decide_eq_true_eq]at hc
 obtain⟨⟨⟨rfl,hx⟩,hy⟩,ht⟩:=hc
 cases hel:dC P t with
 |none=>rw[hel]at ht;cases ht
 |some e=>
 have ht:=dL hel
 have e2:a.eval v=.slice none 0 0:=by
  split at hy
  ·rfl
  ·cases hy
 have hbx:=XR.aR h hx
 have hw':Uy ne E d K (E.x x):=hw
 generalize E.x x=xv at hw' hbx
 have some_:∀(ad:Addr)(l c:Nat),a.eval u=.slice (some ad) l c->K (E.put d (.bool ne))->rS P G n D w a (.binOp (if ne=true then .neq else .eql) t u v yt) ty d K:=by
  intro ad l c e1 hk pos after g next Q hn
  have hr:(Op.equal t (.slice (some ad) l c) (.slice none 0 0)).run P w=.ok false w:=BW 9999 ht ad l c
  refine a8 (v:=.bool ne) ?_ (hn G _ _ _ (h.Qw hd rfl (.bool _) rfl) (aC.refl G w) hk)
  cases ne<;>simp[execOp,e1,e2,eqGuard,binOp,hr]
 have none_:a.eval u=.slice none 0 0->K (E.put d (.bool !ne))->rS P G n D w a (.binOp (if ne=true then .neq else .eql) t u v yt) ty d K:=by
  intro e1 hk pos after g next Q hn
  have key:∀q:Nat,(Op.equalIn (q+1) t (.slice none 0 0) (.slice none 0 0)).run P w=.ok true w:=fun q=>by simp[Op.equalIn,run_underlying ht]
  have hr:(Op.equal t (.slice none 0 0) (.slice none 0 0)).run P w=.ok true w:=key 9999
  refine a8 (v:=.bool !ne) ?_ (hn G _ _ _ (h.Qw hd rfl (.bool _) rfl) (aC.refl G w) hk)
  cases ne<;>simp[execOp,e1,e2,eqGuard,binOp,hr]
 unfold Uy at hw'
 split at hw'<;>try(exact hw'.elim)
 ·rename_i ow sz m cs
  rcases VR.iJ hbx with⟨(e1|⟨_,_,_,e1⟩),rfl,_⟩|⟨b,off,cap,e1,_⟩
  ·exact none_ e1 (hw' _ fun _=>rfl)
  ·exact some_ _ _ _ e1 (hw' _ fun hh=>by cases ne<;>cases hh)
  ·exact some_ _ _ _ e1 (hw' _ fun hh=>by cases ne<;>cases hh)
 ·rename_i b off m cap
  rcases VR.cj hbx with e1|⟨_,rfl,e1⟩
  ·exact some_ _ _ _ e1 (hw' _ fun hh=>by cases ne<;>cases hh)
  ·exact none_ e1 (hw' _ fun _=>rfl)
theorem Ze(h:Inv G n D E a w){op:Op}{ty:TypeId}{f:Nat}{x y:IX}{d:Option Nat}{K:St->Prop}(hd:bz n d=true)(hc:aq P op ty (.VD f x y)=true)(hw:jB P (.VD f x y) d E K):rS P G n D w a op ty d K:=by
 cases op<;>first|(simp[aq]at hc;done)|skip
 rename_i c
 obtain⟨callee,ys,ats⟩:=c
 simp only[aq]at hc
 split at hc<;>try(cases hc;done)
 rename_i g
 simp only[Bool.and_eq_true,beq_iff_eq]at hc
 obtain⟨rfl,hxs⟩:=hc
 obtain⟨ys⟩:=ys
 have hys:∃u v,ys=[u,v]/\bP u x=true/\bP v y=true:=by
  match ys,hxs with
  |[u,v],hxs=>
   simp only[ji,Bool.and_eq_true]at hxs
   exact⟨u,v,rfl,hxs.1,hxs.2.1⟩
  |[],hxs=>cases hxs
  |[_],hxs=>simp[ji]at hxs
  |_::_::_::_,hxs=>simp[ji]at hxs
 obtain⟨u,v,rfl,hu,hv⟩:=hys
 have hbx:=XR.aR h hu
 have hby:=XR.aR h hv
 have hw':XC P f E d K (E.x x) (E.x y):=hw
 generalize E.x x=xv at hw' hbx
 generalize E.x y=yv at hw' hby
 unfold XC at hw'
 split at hw'<;>try(exact hw'.elim)
 rename_i ow sz l c0 cs0 b' o' l' cp'
 obtain⟨hov,hs2,hk⟩:=hw'
 rcases VR.iJ hbx with⟨_,h0,_⟩|⟨b,o,cp,e1,hl,hR,iG,hat⟩
 ·cases h0
 have e2:=VR.tu hby (Nat.succ_pos _)
 unfold cellsIn at hs2
 split at hs2<;>try(exact hs2.elim)
 rename_i akx
 obtain⟨q0,q1',x2,t2,q1,q2,_⟩:=h.store b' _ akx
 obtain⟨uu,dW,_,_⟩:=hat
 have hc0:=dW 0 c0 rfl
 have hblk:∃x1 t1 f1,w.heap[b]? =some (.cells x1 t1 f1)/\x1.size≠0:=by
  unfold World.cell? at hc0
  split at hc0
  ·rename_i x1 t1 f1 hh
   refine⟨x1,t1,f1,hh,fun h0=>?_⟩
   have hlt:=(Array.getElem?_eq_some_iff.1 hc0).1
   omega
  ·cases hc0
 obtain⟨x1,t1,f1,p1,p2⟩:=hblk
 have hbb:b≠b':=fun e=>by
  subst e
  rw[q1']at hR
  simp only[List.length_cons]at hR
  omega
 obtain⟨w',hr,r1,r2,r3,r4,r5⟩:=hov w b b' o (l+1) cp o' l' (cp'+1) t1 t2 x1 x2 f1 hbb p1 p2 q1 (by rw[q2.1];simp)
 have bA:aC G w G w':=⟨r2,r3,r4,r5,by rw[r1];exact Nat.le_refl _,fun _ _=>Nat.le_refl _,fun b k _ _=>Ck r1 _,fun b _ _=>by rw[r1],fun b _ hb=>⟨hb,rfl⟩,fun b _ hb=>⟨hb,rfl⟩⟩
 have hg':cw G w':=⟨fun b hb=>h.aV.kS b (by rw[r1]at hb;exact hb),fun b hb=>h.aV.kU b (by rw[r1]at hb;exact hb)⟩
 have hinv:Inv G n D (E.put d (.bool false)) (a.put d (.bool false)) w':=by
  have:=h.put (s':=E.s) (lp':=E.lp) d (fun i hi=>by subst hi;simpa[bz]using hd) (.bool false) (.bool false) hg' bA (h.store.mono h.aV bA (fun b hb=>⟨hb,rfl,by rw[r1]⟩) (fun _ c j _ hc=>⟨hc,rfl,by rw[r1]⟩)) (fun _ hx=>hx) (fun i t _ ht=>ht.elim) (fun i t _⟨cs,hcs⟩=>by cases hcs)
   (fun _ _ _ _=>⟨rfl,rfl,by rw[r1]⟩) (fun _ _ _ _ _ _ hcc=>⟨hcc,rfl,by rw[r1]⟩) (fun i hdi=>⟨.bool _,trivial⟩)
  cases d<;>exact this
 intro pos after gd next Q hn
 refine a8 (w':=w') (v:=.bool false) ?_ (hn G _ _ _ hinv bA hk)
 simp[execOp,resolve,Act.eval,Deferred.ofValue,invoke]
 simp[Act.eval]at e1 e2
 rw[e1,e2,hr]
theorem KO(a b:List AV):views (a++b)=views a++views b:=by simp[views]
theorem Us(h:Inv G n D E a w){op:Op}{ty:TypeId}{f i:Nat}{args:List IX}{d:Option Nat}{K:St->Prop}(hd:bz n d=true)(hc:aq P op ty (.uX f i args)=true)(hw:jB P (.uX f i args) d E K):rS P G n D w a op ty d K:=by
 have hcc:aq P op ty (.call f args)=true:=by
  cases op<;>first|(simp[aq]at hc;done)|skip
  simp only[aq,Bool.and_eq_true]at hc
  exact hc.2
 have hw':Yq i E (fun U=>uY P f U d K (b7 (xg true U) args)) (look E.e i):=hw
 have later:∀(G1:Gh)(U:St),Inv G1 n D U a w->aC G w G1 w->uY P f U d K (b7 (xg true U) args)->rS P G n D w a op ty d K:=by
  intro G1 U h1 hp hk pos after g next Q hn
  exact Pj h1 hd hcc hk pos after g next Q fun G' E' a' w' k1 k2 k3=>hn G' E' a' w' k1 (hp.trans k2) k3
 cases hl:look E.e i<;>rw[hl]at hw'<;>first|exact hw'.elim|skip
 rename_i sz m cs
 obtain⟨hw1,hw2⟩:=hw'
 have hin:i<n:=h.Qi (by rw[hl];simp)
 have hlt:i<a.tmps.size:=by rw[h.size];exact hin
 have hs:=h.cy i _ (Array.getElem?_eq_getElem hlt)
 rw[hl]at hs
 rcases hs with⟨h1,h2,h3⟩|⟨b,cap,c,t,sp,h1,h2,h3,h4,h5,h6,h7,h8,h9,h10,h11,h12⟩
 ·subst h1;subst h2
  rcases h3 with h3|⟨b,off,h3⟩
  ·refine later G _ (h.TS i hin (.arr 0 0 0 0) (fun t ht=>ht) (fun cs e=>by cases e) fun v hv=>?_) (aC.refl G w) (hw2 rfl 0 0)
   rw[Array.getElem?_eq_getElem hlt]at hv;injection hv with hv;subst hv
   exact⟨by rw[h3];exact .Ma _ _,trivial⟩
  ·refine later G _ (h.TS i hin (.arr b off 0 0) (fun t ht=>ht) (fun cs e=>by cases e) fun v hv=>?_) (aC.refl G w) (hw2 rfl b off)
   rw[Array.getElem?_eq_getElem hlt]at hv;injection hv with hv;subst hv
   exact⟨by rw[h3];exact .arr _ _ _ _,trivial⟩
 ·have WQ:E.s b=none:=by
   cases hsb:E.s b with
   |none=>rfl
   |some o=>have:=(h.store b o hsb).1;rw[h4]at this;cases this
  have akD:views sp=sp:=by
   have:views cs++views sp=cs++sp:=by rw[<-KO];exact h12
   exact(List.append_inj this (by simp[views])).2
  let G1:Gh:=G.sR b .sh 0
  have same:∀b',b'≠b->G1.O b'=G.O b'/\G1.R b'=G.R b'/\w.heap[b']? =w.heap[b']? :=fun b' hb'=>⟨by simp[G1,hb'],by simp[G1,hb'],rfl⟩
  have hRe:∀b',G1.R b'=G.R b':=fun b'=>by
   by_cases hb:b'=b
   ·subst hb;simp[G1,h5]
   ·simp[G1,hb]
  have bA:aC G w G1 w:=⟨rfl,rfl,rfl,Nat.le_refl _,Nat.le_refl _,fun b' _=>by rw[hRe];exact Nat.le_refl _,fun _ _ _ _=>rfl,fun _ _ _=>rfl,fun b' _ hb'=>by
   have:b'≠b:=fun e=>by subst e;rw[h4]at hb';cases hb'
   exact⟨(same b' this).1.trans hb',(same b' this).2.1⟩,fun b' _ hb'=>by
   have:b'≠b:=fun e=>by subst e;rw[h4]at hb';cases hb'
   exact⟨(same b' this).1.trans hb',(same b' this).2.1⟩⟩
  have hbl:b<w.heap.size:=h.aV.lt (by rw[h4];simp)
  have nL:cw G1 w:=⟨fun b' hb'=>by
   have:b'≠b:=by omega
   rw[(same b' this).1,h.aV.kS b' hb'],fun b' hb'=>by rw[hRe,h.aV.kU b' hb']⟩
  have hst:aW G1 w (E.s.set b (.cells (cs++sp))):=by
   intro b' o hb'
   unfold ab.set at hb'
   by_cases hbg:b'=b
   ·rw[if_pos hbg]at hb';injection hb' with hb';subst hb';subst hbg
    refine⟨by simp[G1],by simp[G1],c,t,h6,⟨by rw[h7,h9],fun j x y hx hy=>⟨bA.vr h.aV (h10 j x y hx hy),?_⟩⟩,h11.tag _⟩
    rw[<-h12,eW]at hx
    cases hz:(cs++sp)[j]? with
    |none=>rw[hz]at hx;cases hx
    |some x'=>rw[hz]at hx;simp at hx;rw[<-hx];exact dx.view ..
   ·rw[if_neg hbg]at hb'
    obtain⟨r1,r2,r3⟩:=h.store b' o hb'
    refine⟨(same b' hbg).1.trans r1,(same b' hbg).2.1.trans r2,?_⟩
    cases o with
    |cells cs'=>
     obtain⟨c0,t0,r4,r5,r6⟩:=r3
     exact⟨c0,t0,r4,r5.mono (fun _ _ hv=>bA.vr h.aV hv) (fun b'' j rp=>by
      obtain⟨x1,x2,x3⟩:=same b'' (fun e=>by subst e;rw[h4]at rp;cases rp)
      exact⟨x1.trans rp,x2,x3⟩),r6⟩
    |map es=>
     obtain⟨js,clock,r4,r5,r6⟩:=r3
     exact⟨js,clock,r4,r5,fun j x y hx hy=>⟨bA.vr h.aV (r6 j x y hx hy).1,bA.vr h.aV (r6 j x y hx hy).2⟩⟩
  have h1':Inv G1 n D ({E with s:=E.s.set b (.cells (cs++sp))}.put (some i) (.arr b 0 m cap)) a w:=by
   have ha:a.put (some i) a.tmps[i]=a:=by
    have:a.tmps.setIfInBounds i a.tmps[i]=a.tmps:=by rw[Array.setIfInBounds,dif_pos hlt,Array.set_getElem_self]
    simp[Act.put,this]
   have:=h.put (s':=E.s.set b (.cells (cs++sp))) (lp':=E.lp) (some i) (fun j hj=>by injection hj with hj;subst hj;exact hin) (.arr b 0 m cap) a.tmps[i] nL bA hst (fun _ hx=>hx) (fun j t _ ht=>ht.elim) (fun j t _⟨cs,hcs⟩=>by cases hcs)
    (fun j b' hj hb'=>same b' (fun e=>by
      subst e
      rcases hb' with⟨q,hb'⟩|hb'<;>rw[h4]at hb'
      ·injection hb' with hb' _;exact hj (by rw[hb'])
      ·cases hb'))
    (fun j b' c' q _ _ hc'=>by
      obtain⟨x1,x2,x3⟩:=same c' (fun e=>by subst e;rw[h4]at hc';cases hc')
      exact⟨x1.trans hc',x2,x3⟩)
    (fun j hj=>by
      injection hj with hj;subst hj
      exact⟨by rw[h3];exact .arr _ _ _ _,trivial⟩)
   rw[ha]at this
   exact this
  exact later G1 _ h1' bA (hw1 b cap sp WQ h1 h2 h9 h11 akD)
theorem TL{R:Nat->Nat}{sz:Nat}{c:AV}{u:Value}(h:VR w R c u):VR w R (wD sz c) u:=by
 unfold wD
 split
 ·rename_i b
  rcases VR.cj h with e|⟨_,_,e⟩
  ·rw[e];exact .sl true sz 0 [] b 0 0 (fun _=>undef) Fl.nil (by simp) (by simp) (Nat.le_refl _) (fun j c hj=>by simp at hj) (fun j c hj=>by simp at hj)
  ·rw[e];exact .slnil _ _
 ·exact h
theorem Qn{R:Nat->Nat}{o:c7}{sz:Nat}{c:AV}{u:Value}(h:VR w R c u):dx G w o (wD sz (view c)) u:=by
 unfold wD
 split
 ·rename_i b hb
  have:c=.arr b 0 0 0:=by cases c<;>simp[view]at hb<;>simp[hb]
  subst this
  intro base m cap hv hc
  rcases VR.cj h with e|⟨_,_,e⟩<;>rw[e]at hv<;>injection hv with _ e2 e3<;>omega
 ·exact dx.view ..
theorem LB{sz:Nat}{c:AV}(h:sc c=true):sc (wD sz c)=true:=by
 unfold wD
 split
 ·rfl
 ·exact h
theorem QS{sz:Nat}{av:AV}{v:Value}(hi:dF av=true)(h:VR w G.R av v):Fl (cL sz av)/\v.cells.toList.length=(cL sz av).length/\(∀(j:Nat)(x:AV)(y:Value),(cL sz av)[j]? =some x->v.cells.toList[j]? =some y->VR w G.R x y)/\
 (∀y∈v.cells.toList,y.oneCell'=true):=by
 obtain⟨h1,h2,h3,h4⟩:=IQ hi h
 cases av with
 |agg cs=>
  simp only[bg]at h1 h2 h3
  refine⟨fun c hc=>?_,by simp only[cL,List.length_map];exact h2,fun j x y hx hy=>?_,h4⟩
  ·simp only[cL,List.mem_map]at hc
   obtain⟨c',hc',rfl⟩:=hc
   exact LB (h1 c' hc')
  ·simp only[cL,List.getElem?_map]at hx
   cases hz:(views cs)[j]? with
   |none=>rw[hz]at hx;cases hx
   |some x'=>rw[hz]at hx;simp at hx;rw[<-hx];exact TL (h3 j x' y hz hy)
 |_=>exact⟨h1,h2,h3,h4⟩
theorem RN(h:Inv G n D E a w){op:Op}{ty:TypeId}{sz m:Nat}{p v:IX}{d:Option Nat}{K:St->Prop}(hd:bz n d=true)(hc:aq P op ty (.qw sz m p v)=true)(hw:jB P (.qw sz m p v) d E K):rS P G n D w a op ty d K:=by
 cases op<;>first|(simp[aq]at hc;done)|skip
 rename_i t q u
 simp only[aq,Bool.and_eq_true]at hc
 obtain⟨⟨hs,hq⟩,hu⟩:=hc
 obtain⟨hi,hm,hk⟩:=hw
 have hvr:VR w G.R (E.x v) (a.eval u):=by
  have:=XR.aR h hu
  generalize E.x v=av at hi this
  cases av<;>first|exact this|(simp[dF]at hi)
 have target:∃g off eR,a.eval q=.pointer (some ⟨g,off,none⟩)/\
  ((∃i,look E.e i=.loc eR/\a.tmps[i]? =some (.pointer (some ⟨g,0,none⟩))/\KP (E.drain v) (E.x p) p (cL sz (E.x v))=wrL (E.drain v) i (eA off (cL sz (E.x v)) eR))\/
   (E.s g=some (.cells eR)/\KP (E.drain v) (E.x p) p (cL sz (E.x v))=wrS (E.drain v) g (eA off (cL sz (E.x v)) eR))):=by
  have hb:=XR.aR h hq
  cases hp:E.x p with
  |loc eR=>
   rw[hp]at hb
   obtain⟨i,b,c,t',e1,e2,e3,e4,_⟩:=hb
   refine⟨b,0,eR,e4,.inl ⟨i,e2,by rw[e3,e4],?_⟩⟩
   subst e1;rfl
  |lp d0 off=>
   rw[hp]at hb hk
   obtain⟨b,e1,e2⟩:=hb
   have hk':Rl d K (L3 (E.drain v) d0 off (cL sz (E.x v)) (look (E.drain v).e d0)):=hk
   cases hl:look (E.drain v).e d0<;>rw[hl]at hk'<;>first|exact hk'.elim|skip
   rename_i eR
   have hl':=HB hi hl
   exact⟨b,off,eR,e1,.inl ⟨d0,hl',e2 eR hl',by show L3 _ _ _ _ (look (E.drain v).e d0)=_;rw[hl];rfl⟩⟩
  |ref b off=>
   rw[hp]at hb hk
   have e1:=VR.jl hb
   have hk':Rl d K (S4 (E.drain v) b off (cL sz (E.x v)) ((E.drain v).s b)):=hk
   have hs':(E.drain v).s=E.s:=by cases v<;>rfl
   rw[hs']at hk'
   cases hl:E.s b with
   |none=>rw[hl]at hk';exact hk'.elim
   |some so=>
    cases so with
    |map es=>rw[hl]at hk';exact hk'.elim
    |cells eR=>exact⟨b,off,eR,e1,.inr ⟨hl,by show S4 _ _ _ _ ((E.drain v).s b)=_;rw[hs',hl];rfl⟩⟩
  |_=>rw[hp]at hk;exact hk.elim
 obtain⟨g,off,eR,e1,acX⟩:=target
 obtain⟨G1,h1,hp1,hv1,sg,hR1,hsh,Zp,dW⟩:=h.drain hu hi (.cell g off) (by simp) (by simp)
 obtain⟨hfl,hlen,vo,Cw⟩:=QS (sz:=sz) hi hv1
 have Gy:∀(j:Nat)(x:AV)(y:Value),(cL sz (E.x v))[j]? =some x->(a.eval u).cells.toList[j]? =some y->VR w G1.R x y/\dx G1 w (.cell g (off+j)) x y:=by
  intro j x y hx hy
  refine⟨vo j x y hx hy,?_⟩
  cases hv:E.x v with
  |agg cs=>
   rw[hv]at hx hv1
   obtain⟨vs,e,hl,hr,_⟩:=VR.xx hv1
   simp only[cL,List.getElem?_map]at hx
   rw[eW]at hx
   cases hc0:cs[j]? with
   |none=>rw[hc0]at hx;cases hx
   |some c0=>
    rw[hc0]at hx;simp at hx;rw[<-hx]
    rw[e]at hy
    exact Qn (hr j c0 y hc0 (by simpa[Value.cells]using hy))
  |sl o s l cs=>
   rw[hv]at hx sg hv1
   cases j with
   |succ j=>simp[cL]at hx
   |zero=>
   simp[cL]at hx
   subst hx
   have:(a.eval u).cells= #[a.eval u]:=by rcases VR.iJ hv1 with⟨(e|⟨_,_,_,e⟩),_⟩|⟨_,_,_,e,_⟩<;>rw[e]<;>rfl
   rw[this]at hy
   simp at hy
   subst hy
   exact sg
  |bb t l cs=>
   rw[hv]at hx sg hv1
   cases j with
   |succ j=>simp[cL]at hx
   |zero=>
   simp[cL]at hx
   subst hx
   have acY:VR w G1.R (.sl true 1 l cs) (a.eval u):=by cases hv1;assumption
   have:(a.eval u).cells= #[a.eval u]:=by rcases VR.iJ acY with⟨(e|⟨_,_,_,e⟩),_⟩|⟨_,_,_,e,_⟩<;>rw[e]<;>rfl
   rw[this]at hy
   simp at hy
   subst hy
   exact sg
  |_=>
   rw[hv]at hx
   cases j with
   |succ j=>simp[cL]at hx
   |zero=>simp[cL]at hx;subst hx;trivial
 have oK:(a.eval u).cells.toList.length=m:=by rw[hlen,hm]
 have xP:∀(U:St)(w':World),Inv G1 n D U a w'->Inv G1 n D (U.put d (.gK [])) (a.put d undef) w':=by
  intro U w' hτ
  have:=hτ.put (s':=U.s) (lp':=U.lp) d (fun i hi=>by subst hi;simpa[bz]using hd) (.gK []) undef hτ.aV (aC.refl G1 w') hτ.store (fun _ hx=>hx) (fun i t _ ht=>ht.elim) (fun i t _⟨cs,hcs⟩=>by cases hcs)
   (fun _ _ _ _=>⟨rfl,rfl,rfl⟩) (fun _ _ _ _ _ _ hcc=>⟨hcc,rfl,rfl⟩) (fun i hdi=>⟨#[],rfl,rfl,fun j x y hx=>by simp at hx⟩)
  cases d<;>exact this
 rcases acX with⟨i,e2,e3,e4⟩|⟨e2,e4⟩
 ·
  rw[e4]at hk
  cases hwr:eA off (cL sz (E.x v)) eR with
  |none=>rw[hwr]at hk;exact hk.elim
  |some cs'=>
   rw[hwr]at hk
   obtain⟨dX,rfl⟩:=tT hwr
   have e2':look (E.drain v).e i=.loc eR:=D8 hi e2
   have DN:=h1.cy i _ e3
   rw[e2']at DN
   obtain⟨b,c,t',q1,q2,q3,q4,q5,q6⟩:=DN
   injection q1 with q1;injection q1 with q1;injection q1 with q1 _ _
   subst q1
   have hne:∀j,G1.O g≠.cell g j:=fun j=>by rw[q2];simp
   have yd:off+(a.eval u).cells.toList.length<=c.size:=by rw[hlen,q5.1];exact dX
   have b9:=pt (P:=P) hs q4 (v:=a.eval u) (by simpa using oK) (by rw[<-oK];exact yd) Cw
   have bA:aC G1 w G1 (w.setRow g (laid c off (a.eval u).cells.toList)):=aC.write q4 (by rw[q2];simp) (fun k hk=>by rw[q3]at hk;omega) (Nat.le_refl _) (fun _ _=>⟨rfl,rfl⟩)
   have kF:=dG.lay q4 bA h1.aV q5 hlen dX hne Gy
   obtain⟨h2,_⟩:=h1.written (E':=(E.drain v).put (some i) (.loc (setAt eR off (cL sz (E.x v))))) q4 (.inl ⟨i,q2⟩) q3 rfl
    (h1.store.mono h1.aV bA (fun b hb=>⟨hb,rfl,setRow_other w g b _ (fun e=>by subst e;rw[q2]at hb;cases hb)⟩) (fun b c j _ hc=>⟨hc,rfl,setRow_other w g c _ (fun e=>by subst e;rw[q2]at hc;cases hc)⟩))
    (fun k=>by
      by_cases hki:i=k
      ·subst hki
       exact .inr ⟨q2,e3,eR,_,e2',by simp[St.put,aQ],kF,Fl.setAt q6 hfl off⟩
      ·refine .inl ⟨by simp[St.put,aQ,hki],?_⟩
       rw[q2];intro e;injection e with e;exact hki e)
   intro pos after gd next Q hn
   exact sU (w':=w.setRow g (laid c off (a.eval u).cells.toList)) (by simp[execOp,e1,Instr.storeAt,Instr.sureAddr,b9]) (hn G1 _ _ _ (xP _ _ h2) (hp1.trans bA) hk)
 ·
  rw[e4]at hk
  cases hwr:eA off (cL sz (E.x v)) eR with
  |none=>rw[hwr]at hk;exact hk.elim
  |some cs'=>
   rw[hwr]at hk
   obtain⟨dX,rfl⟩:=tT hwr
   have hs':(E.drain v).s=E.s:=by cases v<;>rfl
   obtain⟨q2,q3,c,t',q4,q5,q6⟩:=h1.store g (.cells eR) (by rw[hs'];exact e2)
   have hne:∀j,G1.O g≠.cell g j:=fun j=>by rw[q2];simp
   have yd:off+(a.eval u).cells.toList.length<=c.size:=by rw[hlen,q5.1];exact dX
   have b9:=pt (P:=P) hs q4 (v:=a.eval u) (by simpa using oK) (by rw[<-oK];exact yd) Cw
   have bA:aC G1 w G1 (w.setRow g (laid c off (a.eval u).cells.toList)):=aC.write q4 (by rw[q2];simp) (fun k hk=>by rw[q3]at hk;omega) (Nat.le_refl _) (fun _ _=>⟨rfl,rfl⟩)
   have kF:=dG.lay q4 bA h1.aV q5 hlen dX hne Gy
   have hst:aW G1 (w.setRow g (laid c off (a.eval u).cells.toList)) ((E.drain v).s.set g (.cells (setAt eR off (cL sz (E.x v))))):=by
    intro b o hb
    unfold ab.set at hb
    by_cases hbg:b=g
    ·rw[if_pos hbg]at hb;injection hb with hb;subst hb;subst hbg
     exact⟨q2,q3,_,t',setRow_heap w b c _ t' _ q4,kF,Dy.setAt q6 hfl off⟩
    ·rw[if_neg hbg]at hb
     obtain⟨r1,r2,r3⟩:=h1.store b o hb
     refine⟨r1,r2,?_⟩
     have hbk:=setRow_other w g b (laid c off (a.eval u).cells.toList) hbg
     cases o with
     |cells cs=>
      obtain⟨c0,t0,r4,r5,r6⟩:=r3
      exact⟨c0,t0,hbk.trans r4,r5.mono (fun _ _ hv=>bA.vr h1.aV hv) (fun b' j hb'=>⟨hb',rfl,setRow_other w g b' _ (fun e=>by subst e;rw[q2]at hb';cases hb')⟩),r6⟩
     |map es=>
      obtain⟨js,clock,r4,r5,r6⟩:=r3
      exact⟨js,clock,hbk.trans r4,r5,fun j x y hx hy=>⟨bA.vr h1.aV (r6 j x y hx hy).1,bA.vr h1.aV (r6 j x y hx hy).2⟩⟩
   obtain⟨h2,_⟩:=h1.written (E':={E.drain v with s:=(E.drain v).s.set g (.cells (setAt eR off (cL sz (E.x v))))}) q4 (.inr q2) q3 rfl hst
    (fun k=>.inl ⟨rfl,by rw[q2];simp⟩)
   intro pos after gd next Q hn
   exact sU (w':=w.setRow g (laid c off (a.eval u).cells.toList)) (by simp[execOp,e1,Instr.storeAt,Instr.sureAddr,b9]) (hn G1 _ _ _ (xP _ _ h2) (hp1.trans bA) hk)
theorem Wg(h:Inv G n D E a w){op:Op}{ty:TypeId}{sz m:Nat}{x:IX}{d:Option Nat}{K:St->Prop}(hd:bz n d=true)(hc:aq P op ty (.FV sz m x)=true)(hw:jB P (.FV sz m x) d E K):rS P G n D w a op ty d K:=by
 cases op<;>first|(simp[aq]at hc;done)|skip
 rename_i t y
 simp only[aq,Bool.and_eq_true]at hc
 obtain⟨hi,_,hk⟩:=hw
 have hvr:VR w G.R (E.x x) (a.eval y):=by
  have:=XR.aR h hc.2
  generalize E.x x=av at hi this
  cases av<;>first|exact this|(simp[dF]at hi)
 have eU:=ij hi hvr
 have hcs:∀(G':Gh)(w':World)(o:Nat->c7),aC G w G' w'->dG G' w' o ((views (cellsOf (E.x x))).map (wD sz)) (a.eval y).cells:=by
  intro G' w' o hp
  refine⟨by simp only[List.length_map,views];exact eU.1,fun j c u hcj hu=>?_⟩
  simp only[List.getElem?_map]at hcj
  rw[eW]at hcj
  cases hz:(cellsOf (E.x x))[j]? with
  |none=>rw[hz]at hcj;cases hcj
  |some c0=>
   rw[hz]at hcj;simp at hcj
   have h1:=hp.vr h.aV (eU.2.1 j c0 u hz hu)
   rw[<-hcj]
   exact⟨TL h1.view,Qn h1⟩
 have hfl:Fl ((views (cellsOf (E.x x))).map (wD sz)):=by
  intro c hc'
  simp only[List.mem_map]at hc'
  obtain⟨c',h1,rfl⟩:=hc'
  exact LB (eU.2.2.views c' h1)
 intro pos after g next Q hn
 obtain⟨G',h1,h2⟩:=h.Sj hd (t:=t) (.inl ⟨rfl,rfl⟩) hcs hfl
 refine a8 ?_ (hn G' _ _ _ h1 h2 (hk w.heap.size (h.store.get_none h.aV)))
 simp[execOp,Instr.box,newVar,newRow]
end
end Go.AB
end
section
namespace Go.AB
open Go
section
variable{P:Program}{G G':Gh}{n:Nat}{D:List Deferred}{E:St}{a:Act}{w w':World}
end
end Go.AB
end
section
namespace Go.AB
open Go
section
variable{P:Program}{G G':Gh}{n:Nat}{D:List Deferred}{E:St}{a:Act}{w w':World}
theorem aW.shape{s:ab}(h:aW G w s){b:Nat}{cs:List AV}(hs:s b=some (.cells cs)):∃t,w.shape? b=some (t,cs.length)/\Dy t cs:=by
 obtain⟨_,_,c,t,h4,h5,h6⟩:=h b _ hs
 exact⟨t,by simp[World.shape?,h4,h5.1],h6⟩
theorem XR.ref(h:Inv G n D E a w){y:Operand}{x:IX}(hy:bP y x=true){b off:Nat}(hx:E.x x=.ref b off):a.eval y=.pointer (some ⟨b,off,none⟩):=by
 have:=XR.aR h hy
 rw[hx]at this
 exact VR.jl this
theorem Wh(h:Inv G n D E a w){op:Op}{ty:TypeId}{m t0 j0 u0:Nat}{x:IX}{d:Option Nat}{K:St->Prop}(hd:bz n d=true)(hc:aq P op ty (.Mc m t0 j0 u0 x)=true)(hw:jB P (.Mc m t0 j0 u0 x) d E K):rS P G n D w a op ty d K:=by
 cases op<;>first|(simp[aq]at hc;done)|skip
 rename_i t y
 simp only[aq,Bool.and_eq_true,beq_iff_eq]at hc
 obtain⟨⟨rfl,_⟩,hc⟩:=hc
 obtain⟨hi,_,hj0,hj1,hk⟩:=hw
 have hvr:VR w G.R (E.x x) (a.eval y):=by
  have:=XR.aR h hc
  generalize E.x x=av at hi this
  cases av<;>first|exact this|(simp[dF]at hi)
 have eU:=ij hi hvr
 have hj:j0+1<(cellsOf (E.x x)).length:=(List.getElem?_eq_some_iff.1 hj1).1
 have hcs:∀(G':Gh)(w':World)(o:Nat->c7),aC G w G' w'->dG G' w' o (setAt (views (cellsOf (E.x x))) j0 [.ri t0,.bb u0 0 []]) (a.eval y).cells:=by
  intro G' w' o hp
  have hlen:j0+[AV.ri t0,AV.bb u0 0 []].length<=(views (cellsOf (E.x x))).length:=by simp[views];omega
  refine⟨by rw[ni _ _ _ hlen];simp only[List.length_map,views];exact eU.1,fun j c u hcj hu=>?_⟩
  rw[pD _ _ _ _ hlen]at hcj
  by_cases h1:j=j0
  ·subst h1
   rw[if_pos ⟨Nat.le_refl _,by simp⟩,Nat.sub_self]at hcj
   injection hcj with hcj;subst hcj
   have hu':=eU.2.1 j .dV u hj0 hu
   obtain rfl:u=.pointer none:=VR.vp hu'
   exact⟨.ri t0,trivial⟩
  ·by_cases h2:j=j0+1
   ·subst h2
    rw[if_pos ⟨by omega,by simp⟩,show j0+1 -j0=1 by omega]at hcj
    injection hcj with hcj;subst hcj
    have hu':=eU.2.1 _ _ u hj1 hu
    have e:u=.slice none 0 0:=by cases hu' with|bb _ _ _ _ h h0=>exact h0 rfl
    subst e
    exact⟨.bb _ _ _ _ (.slnil _ _) (fun _=>rfl),fun base m' dy hv hc=>by injection hv with _ e2 e3;omega⟩
   ·rw[if_neg (by simp;omega),eW]at hcj
    cases hz:(cellsOf (E.x x))[j]? with
    |none=>rw[hz]at hcj;cases hcj
    |some c0=>
     rw[hz]at hcj;simp at hcj
     have h1:=hp.vr h.aV (eU.2.1 j c0 u hz hu)
     rw[<-hcj]
     exact⟨h1.view,dx.view ..⟩
 have hfl:Dy t0 (setAt (views (cellsOf (E.x x))) j0 [.ri t0,.bb u0 0 []]):=by
  intro c hc'
  unfold setAt at hc'
  simp only[List.mem_append]at hc'
  have base:=eU.2.2.views
  rcases hc' with(hc'|hc')|hc'
  ·exact .inl (base c (List.mem_of_mem_take hc'))
  ·simp only[List.mem_cons,List.not_mem_nil,or_false]at hc'
   rcases hc' with rfl|rfl
   ·exact .inr rfl
   ·exact .inl rfl
  ·exact .inl (base c (List.mem_of_mem_drop hc'))
 intro pos after g next Q hn
 obtain⟨G',h1,h2⟩:=h.aby hd (t:=t0) (.inl ⟨rfl,rfl⟩) hcs hfl
 refine a8 ?_ (hn G' _ _ _ h1 h2 (hk w.heap.size (h.store.get_none h.aV)))
 simp[execOp,Instr.box,newVar,newRow]
end
end Go.AB
end
section
namespace Go.AB
open Go
section
variable{P:Program}{G G':Gh}{n:Nat}{D:List Deferred}{E:St}{a:Act}{w w':World}
theorem Inv.Z8(h:Inv G n D E a w){d:Option Nat}(hd:bz n d=true){av:AV}{v:Value}(hv:NR G w E a av v):Inv G n D ((bU E av d).put d av) (a.put d v) w:=by
 have hd':∀i,d=some i->i<n:=fun i hi=>by subst hi;simpa[bz]using hd
 by_cases hlp:∃t off,av=.lp t off
 ·obtain⟨t,off,rfl⟩:=hlp
  cases d with
  |none=>exact h
  |some i=>
   obtain⟨b,hv1,hv2⟩:=hv
   refine h.put (s':=E.s) (lp':=(i,t)::E.lp) (some i) hd' (.lp t off) v h.aV (aC.refl G w) h.store (fun x hx=>List.mem_cons_of_mem _ hx) (fun j t' hj ht=>?_) (fun j t' _⟨cs,hcs⟩=>by cases hcs)
    (fun _ _ _ _=>⟨rfl,rfl,rfl⟩) (fun _ _ _ _ _ _ hcc=>⟨hcc,rfl,rfl⟩) (fun j hj=>?_)
   ·injection hj with hj;subst hj
    have:t=t':=ht
    subst this
    exact List.mem_cons_self
   ·injection hj with hj;subst hj
    refine⟨b,hv1,fun cs hcs=>?_⟩
    by_cases hit:i=t
    ·subst hit;simp[St.put,aQ]at hcs
    ·simp only[St.put,aQ,hit,if_false]at hcs
     simpa[Act.put,Array.getElem?_setIfInBounds_ne hit]using hv2 cs hcs
 ·have hnr:dF av=true/\VR w G.R av v/\view av=av:=by
   cases av<;>first|exact hv|exact(hlp ⟨_,_,rfl⟩).elim
  have hl:bU E av d=E:=by cases av<;>first|rfl|exact(hlp ⟨_,_,rfl⟩).elim|exact absurd hnr.1 (by simp[dF])
  rw[hl]
  have:=h.put (s':=E.s) (lp':=E.lp) d hd' av v h.aV (aC.refl G w) h.store (fun _ hx=>hx) (fun i t _ ht=>(fc hnr.1 t ht).elim) (fun i t _⟨cs,hcs⟩=>(pk hnr.1 cs hcs).elim)
   (fun _ _ _ _=>⟨rfl,rfl,rfl⟩) (fun _ _ _ _ _ _ hcc=>⟨hcc,rfl,rfl⟩) (fun i hi=>by
     rw[dt.rA hnr.1]
     refine⟨hnr.2.1,?_⟩
     rw[<-hnr.2.2]
     exact dx.view ..)
  cases d<;>exact this
theorem Inv.Z9(h:Inv G n D E a w){d:Option Nat}(hd:bz n d=true):Inv G n D (E.put d (.gK [])) (a.put d undef) w:=by
 have:=h.put (s':=E.s) (lp':=E.lp) d (fun i hi=>by subst hi;simpa[bz]using hd) (.gK []) undef h.aV (aC.refl G w) h.store (fun _ hx=>hx) (fun i t _ ht=>ht.elim) (fun i t _⟨cs,hcs⟩=>by cases hcs)
  (fun _ _ _ _=>⟨rfl,rfl,rfl⟩) (fun _ _ _ _ _ _ hcc=>⟨hcc,rfl,rfl⟩) (fun i hi=>⟨#[],rfl,rfl,fun j x y hx=>by simp at hx⟩)
 cases d<;>exact this
theorem UY(h:Inv G n D E a w){op:Op}{ty:TypeId}{o:uC}{d:Option Nat}{K:St->Prop}(hd:bz n d=true)(hc:aq P op ty o=true)(hw:owp P o d E K):rS P G n D w a op ty d K:=by
 unfold owp at hw
 cases hp:pv o (xg true E) E with
 |dI av=>
  rw[hp]at hw
  obtain⟨v,hr,hnr⟩:=BL h hc (av:=av) (.inl hp)
  exact fun pos after g next Q hn=>a8 (hr d pos after g) (hn G _ _ _ (h.Z8 hd hnr) (aC.refl G w) hw)
 |prt c av=>
  rw[hp]at hw
  obtain⟨v,hr,hnr⟩:=BL h hc (av:=av) (.inr ⟨c,hp,hw.1⟩)
  exact fun pos after g next Q hn=>a8 (hr d pos after g) (hn G _ _ _ (h.Z8 hd hnr) (aC.refl G w) hw.2)
 |no=>
  rw[hp]at hw
  have hw':jB P o d E K:=hw
  cases o with
  |ib tr x=>exact Zd h hd hc hw'
  |an z=>exact(KY h hd).1 hc hw'
  |gR z=>exact(KY h hd).2 hc hw'
  |b8 m x=>exact(Ts h hd).1 hc hw'
  |oU m x=>exact(Ts h hd).2 hc hw'
  |aN sz m z ps=>exact Ph h hd hc hw'
  |store m p v=>exact Ux h hd hc hw'
  |append sz by' x y=>exact RH h hd hc hw'
  |fF x=>exact RK h hd hc hw'
  |gS x=>exact Ms h hd hc hw'
  |call f args=>exact Pj h hd hc hw'
  |kN sz by' z l c=>exact RM h hd hc hw'
  |makeMap=>exact Pk h hd hc hw'
  |cG x args=>exact Ut h hd hc hw'
  |lookup kk z ok x k=>exact RL h hd hc hw'
  |mapUpdate kk x k v=>exact Jl h hd hc hw'
  |kz x=>exact RJ h hd hc hw'
  |sH x=>exact Wi h hd hc hw'
  |j9 sz m z ps=>exact Mr h hd hc hw'
  |fk sz by' z x y=>exact Pf h hd hc hw'
  |lR sz by' z x y=>exact Pg h hd hc hw'
  |qw sz m p v=>exact RN h hd hc hw'
  |FV sz m x=>exact Wg h hd hc hw'
  |Mc m t j u x=>exact Wh h hd hc hw'
  |ik sz x y=>exact Uu h hd hc hw'
  |mS z x=>exact RI h hd hc hw'
  |UB sz ow x=>exact Zc h hd hc hw'
  |yU sz ow x=>exact Uw h hd hc hw'
  |jq x=>exact K0 h hd hc hw'
  |mL off j x=>exact Uv h hd hc hw'
  |YI ne x=>exact Zb h hd hc hw'
  |VD f x y=>exact Ze h hd hc hw'
  |uX f i args=>exact Us h hd hc hw'
  |_=>exact hw'.elim
def BF(P:Program)(ops:Array Oper)(o:Oper)(a:Act)(w:World)(next:Act->World->Prop)(Q:Exit->Act->World->Prop):Prop:=if Region.wanted o (yielded ops a.tmps)then o.wp P a w next Q\/(o.asks P a w/\LetsOut Q)else next (a.put o.dst undef) w
theorem Qr{ops:Array Oper}{o:Oper}{next:Act->World->Prop}{Q:Exit->Act->World->Prop}(hw:Region.wanted o (yielded ops a.tmps)=true)(h:o.wp P a w next Q):BF P ops o a w next Q:=by unfold BF;rw[if_pos hw];exact .inl h
theorem LH{ops:Array Oper}{o:Oper}{next:Act->World->Prop}{Q:Exit->Act->World->Prop}(hw:Region.wanted o (yielded ops a.tmps)=false)(h:next (a.put o.dst undef) w):BF P ops o a w next Q:=by unfold BF;rw[if_neg (by simp[hw])];exact h
theorem Pe(h:Inv G n D E a w){d:Option Nat}(hd:bz n d=true)(av:AV)(hl:∀t,bD av t->∀i,d=some i->(i,t)∈E.lp):Inv G n D (E.put d (.when false av)) (a.put d undef) w:=by
 have:=h.put (s':=E.s) (lp':=E.lp) d (fun i hi=>by subst hi;simpa[bz]using hd) (.when false av) undef h.aV (aC.refl G w) h.store (fun _ hx=>hx) (fun i t hi ht=>hl t ht i hi) (fun i t _⟨cs,hcs⟩=>by cases hcs)
  (fun _ _ _ _=>⟨rfl,rfl,rfl⟩) (fun _ _ _ _ _ _ hcc=>⟨hcc,rfl,rfl⟩) (fun i hi=>⟨fun hh=>Bool.noConfusion hh,fun _=>rfl⟩)
 cases d<;>exact this
theorem jD(E:St):∀(av:AV)(d:Option Nat),(bU E av d).e=E.e/\(bU E av d).s=E.s/\∀x∈E.lp,x∈(bU E av d).lp
 |.lp t _,some i=>⟨rfl,rfl,fun x hx=>List.mem_cons_of_mem _ hx⟩
 |.lp t _,none=>⟨rfl,rfl,fun _ hx=>hx⟩
 |.when _ av,d=>jD E av d
 |.undef,_|.bool _,_|.int _ _,_|.str _,_|.dV,_|.ref _ _,_|.sp _,_|.loc _,_|.sl _ _ _ _,_|.arr _ _ _ _,_|.agg _,_|.gK _,_|.fn _ _ _,_|.ph,_|.mp _,_|.pj,_|.us _ _ _,_|.one,_|.ri _,_|.BD,_|.bb _ _ _,_=>⟨rfl,rfl,fun _ hx=>hx⟩
theorem Xo(h:Inv G n D E a w)(av:AV)(d:Option Nat):Inv G n D (bU E av d) a w:=by
 obtain⟨e1,e2,e3⟩:=jD E av d
 exact⟨h.aV,by rw[e2];exact h.store,h.size,fun i v hv=>by rw[e1];exact h.cy i v hv,fun i hi=>by rw[e1];exact h.Jj i hi,fun i t ht=>e3 _ (h.Rj i t (by rw[e1]at ht;exact ht)),h.uE⟩
theorem CS:∀(av:AV)(d:Option Nat)(t:Nat),bD av t->∀i,d=some i->(i,t)∈(bU E av d).lp
 |.lp t' off,_,t,ht,i,rfl=>by have:t'=t:=ht;subst this;exact List.mem_cons_self
 |.when _ av,d,t,ht,i,hi=>CS av d t ht i hi
 |.undef,_,_,ht,_,_|.bool _,_,_,ht,_,_|.int _ _,_,_,ht,_,_|.str _,_,_,ht,_,_|.dV,_,_,ht,_,_|.ref _ _,_,_,ht,_,_|.sp _,_,_,ht,_,_|.loc _,_,_,ht,_,_|.sl _ _ _ _,_,_,ht,_,_
 |.arr _ _ _ _,_,_,ht,_,_|.agg _,_,_,ht,_,_|.gK _,_,_,ht,_,_|.fn _ _ _,_,_,ht,_,_|.ph,_,_,ht,_,_|.mp _,_,_,ht,_,_|.pj,_,_,ht,_,_|.us _ _ _,_,_,ht,_,_|.one,_,_,ht,_,_|.ri _,_,_,ht,_,_|.BD,_,_,ht,_,_|.bb _ _ _,_,_,ht,_,_=>ht.elim
theorem Inv.xa{d:Option Nat}{av:AV}(h:Inv G n D (E.put d av) a w)(hd:bz n d=true):Inv G n D (E.put d (.when true av)) a w:=by
 cases d with
 |none=>exact h
 |some i=>
 have hlk:∀k,k≠i->look (E.put (some i) (.when true av)).e k=look (E.put (some i) av).e k:=fun k hk=>by simp[St.put,aQ,Ne.symm hk]
 have e1:look (E.put (some i) av).e i=av:=by simp[St.put,aQ]
 have e2:look (E.put (some i) (.when true av)).e i=.when true av:=by simp[St.put,aQ]
 have Zp:∀d' cs,look (E.put (some i) (.when true av)).e d'=.loc cs->look (E.put (some i) av).e d'=.loc cs:=by
  intro d' cs hcs
  by_cases hd':d'=i
  ·subst hd';rw[e2]at hcs;cases hcs
  ·rw[hlk d' hd']at hcs;exact hcs
 have fr:∀k av' u,dt G w (E.put (some i) av).e a.tmps k av' u->dt G w (E.put (some i) (.when true av)).e a.tmps k av' u:=fun k av' u hv=>dt.frame (fun _ _ hv=>hv) (fun b _=>⟨rfl,rfl,rfl⟩) (fun _ _ _ _ hc=>⟨hc,rfl,rfl⟩) _ _ (fun d' _ cs hcs=>⟨cs,Zp d' cs hcs,rfl⟩) hv
 refine⟨h.aV,h.store,h.size,fun k u hu=>?_,fun k hk=>?_,fun k t ht=>?_,h.uE⟩
 ·have hs:=h.cy k u hu
  by_cases hk:k=i
  ·subst hk
   rw[e1]at hs
   rw[e2]
   exact⟨fun _=>fr _ _ _ hs,fun hh=>Bool.noConfusion hh⟩
  ·rw[hlk k hk];exact fr _ _ _ hs
 ·have:k≠i:=by
   have:i<n:=by simpa[bz]using hd
   omega
  rw[hlk k this];exact h.Jj k hk
 ·by_cases hk:k=i
  ·subst hk
   rw[e2]at ht
   exact h.Rj k t (by rw[e1];exact ht)
  ·rw[hlk k hk]at ht;exact h.Rj k t ht
theorem Aj{ops:Array Oper}{tmps:Array Value}{j t:Nat}(h:(ops[j]?).bind (·.dst)=some t):yielded ops tmps j=(match tmps[t]? with|some (.bool b)=>some b|_=>none):=by
 unfold yielded
 rw[h]
 rfl
theorem Gs{ops:Array Oper}{o:Oper}{j t:Nat}{want b:Bool}(hg:o.guard=some (j,want))(ht:(ops[j]?).bind (·.dst)=some t)(hv:a.tmps[t]? =some (.bool b)):Region.wanted o (yielded ops a.tmps)=(b==want):=by
 unfold Region.wanted
 rw[hg]
 simp only[Aj ht,hv]
 cases b<;>cases want<;>rfl
theorem NY(h:Inv G n D E a w){t:Nat}(hl:look E.e t≠.undef):∃v,a.tmps[t]? =some v/\dt G w E.e a.tmps t (look E.e t) v:=by
 have hlt:t<a.tmps.size:=by rw[h.size];exact h.Qi hl
 exact⟨_,ja hlt,h.cy t _ (ja hlt)⟩
theorem gV(h:Inv G n D E a w){ops:Array Oper}{o:Oper}{o':ai}{K:St->Prop}(hc:iB P n ops o o'=true)(hw:Ri P o' E K){next:Act->World->Prop}{Q:Exit->Act->World->Prop}
 (hn:∀G' E' a' w',Inv G' n D E' a' w'->aC G w G' w'->K E'->next a' w'):BF P ops o a w next Q:=by
 obtain⟨dst,op,ty,pos,after,g⟩:=o
 obtain⟨d,io,ig⟩:=o'
 simp only[iB,Bool.and_eq_true,beq_iff_eq]at hc
 obtain⟨⟨⟨rfl,hd⟩,hcg⟩,acP⟩:=hc
 have runs:∀{E₁:St},Inv G n D E₁ a w->owp P io dst E₁ K->(⟨dst,op,ty,pos,after,g⟩:Oper).wp P a w next Q:=fun h1 ho=>UY h1 hd acP ho pos after g next Q hn
 cases ig with
 |none=>
  cases g with
  |some g=>simp[Y6]at hcg
  |none=>exact Qr rfl (runs h hw)
 |some tw=>
  obtain⟨t,want⟩:=tw
  cases g with
  |none=>simp[Y6]at hcg
  |some jw=>
  obtain⟨j,Ca⟩:=jw
  simp only[Y6,Bool.and_eq_true,beq_iff_eq]at hcg
  obtain⟨rfl,ht⟩:=hcg
  have hw':Cs P io dst t Ca E K (look E.e t):=hw
  have skip:∀{E₁:St},Inv G n D E₁ a w->K (E₁.put dst (.gK []))->next (a.put dst undef) w:=fun h1 hk=>hn G _ _ _ (h1.Z9 hd) (aC.refl G w) hk
  have core:∀(g:Bool),Region.wanted ⟨dst,op,ty,pos,after,some (j,Ca)⟩ (yielded ops a.tmps)=g->VC P g io E dst K (pv io (xg g E) E)->BF P ops ⟨dst,op,ty,pos,after,some (j,Ca)⟩ a w next Q:=by
   intro g hwt hx
   cases g with
   |true=>
    refine Qr hwt ?_
    cases hp:pv io (xg true E) E with
    |dI av=>
     rw[hp]at hx
     obtain⟨v,hr,hnr⟩:=BL h acP (av:=av) (.inl hp)
     refine a8 (hr _ _ _ _) (hn G _ _ _ ((h.Z8 hd hnr).xa hd) (aC.refl G w) hx)
    |prt c av=>
     rw[hp]at hx
     obtain⟨v,hr,hnr⟩:=BL h acP (av:=av) (.inr ⟨c,hp,hx.1 rfl⟩)
     refine a8 (hr _ _ _ _) (hn G _ _ _ ((h.Z8 hd hnr).xa hd) (aC.refl G w) hx.2)
    |no=>
     rw[hp]at hx
     exact runs h (hx.1 rfl)
   |false=>
    refine LH hwt ?_
    cases hp:pv io (xg false E) E with
    |dI av=>
     rw[hp]at hx
     exact hn G _ _ _ (Pe (Xo h av dst) hd av (fun t' ht' i hi=>CS av dst t' ht' i hi)) (aC.refl G w) hx
    |prt c av=>
     rw[hp]at hx
     exact hn G _ _ _ (Pe (Xo h av dst) hd av (fun t' ht' i hi=>CS av dst t' ht' i hi)) (aC.refl G w) hx.2
    |no=>
     rw[hp]at hx
     exact skip h (hx.2 rfl)
  cases hlk:look E.e t with
  |bool b=>
   rw[hlk]at hw'
   obtain⟨v,hv1,hv2⟩:=NY h (t:=t) (by rw[hlk];simp)
   rw[hlk]at hv2
   have:=VR.gx hv2.1
   subst this
   exact core _ (Gs (o:=⟨dst,op,ty,pos,after,some (j,Ca)⟩) rfl ht hv1) hw'
  | «when» b' g=>
    rw[hlk]at hw'
    obtain⟨v,hv1,hv2⟩:=NY h (t:=t) (by rw[hlk];simp)
    rw[hlk]at hv2
    cases g with
    |bool b=>
     have hx:VC P (b'&&(b==Ca)) io E dst K (pv io (xg (b'&&(b==Ca)) E) E):=hw'
     cases b' with
     |true=>
      have hvb:=hv2.1 rfl
      have:=VR.gx hvb.1
      subst this
      exact core _ (Gs (o:=⟨dst,op,ty,pos,after,some (j,Ca)⟩) rfl ht hv1) hx
     |false=>
      have:=hv2.2 rfl
      subst this
      have hwt:Region.wanted ⟨dst,op,ty,pos,after,some (j,Ca)⟩ (yielded ops a.tmps)=false:=by
       unfold Region.wanted
       simp only[Aj ht,hv1]
       rfl
      exact core _ hwt hx
    |_=>exact hw'.elim
  |gK vs=>
   rw[hlk]at hw'
   cases vs with
   |cons _ _=>exact hw'.elim
   |nil=>
    obtain⟨v,hv1,hv2⟩:=NY h (t:=t) (by rw[hlk];simp)
    rw[hlk]at hv2
    obtain⟨ys,rfl,_⟩:=hv2
    have hwt:Region.wanted ⟨dst,op,ty,pos,after,some (j,Ca)⟩ (yielded ops a.tmps)=false:=by
     unfold Region.wanted
     simp only[Aj ht,hv1]
     rfl
    exact LH hwt (skip h hw')
  |_=>rw[hlk]at hw';exact hw'.elim
end
end Go.AB
end
