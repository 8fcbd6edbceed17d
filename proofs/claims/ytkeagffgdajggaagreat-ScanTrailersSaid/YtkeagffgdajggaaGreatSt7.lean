/- A part. -/
import Derived.Test.YtkeagffgdajggaaGreatSt6
import Derived.Lib.Builder
set_option linter.unusedSimpArgs false
set_option linter.unusedVariables false
section
namespace Go.AB
open Go
section
variable{P:Program}{G G':Gh}{n:Nat}{D:List Deferred}{E:St}{a:Act}{w w':World}
theorem Inv.frozen(h:Inv G n D E a w){d:Option Nat}(hd:aS n d=true){b off sz k cap:Nat}{cs:List AV}{own:Bool}(hs:E.s b=some (.cells cs))(cF:off+k*sz<=cs.length)(fQ:k<=cap)(qI:own=true->off=0/\cs.length=off+cap*sz):
 ∃G',Inv G' n D ({E with s:=E.s.del b}.put d (.sl own sz k (views (AB.sub cs off (k*sz))))) (a.put d (.slice (some ⟨b,off,none⟩) k cap)) w/\az G w G' w:=by
 obtain⟨q2,q3,c,t,q4,q5,q6⟩:=h.store b _ hs
 let ob:cD:=if own=true then An d else .none
 let G':=G.ot b ob (off+k*sz)
 have aV:az G w G' w:=⟨rfl,rfl,rfl,Nat.le_refl _,Nat.le_refl _,fun b' _=>by
  by_cases hb:b'=b
  ·subst hb;rw[q3];exact Nat.zero_le _
  ·simp[G',hb],fun _ _ _ _=>rfl,fun _ _ _=>rfl,fun b' _ hb'=>by
  have:b'≠b:=fun e=>by subst e;rw[q2]at hb';cases hb'
  simp[G',this,hb'],fun b' _ hb'=>by
  have:b'≠b:=fun e=>by subst e;rw[q2]at hb';cases hb'
  simp[G',this,hb']⟩
 have hlt:b<w.heap.size:=h.aJ.lt (by rw[q2];simp)
 have iR:bR G' w:=⟨fun b' hb'=>by
  have:b'≠b:=by omega
  simp[G',this,h.aJ.ik b' hb'],fun b' hb'=>by
  have:b'≠b:=by omega
  simp[G',this,h.aJ.iT b' hb']⟩
 have same:∀b',G.O b'≠.sh\/b'≠b->G'.O b'=G.O b'/\G'.R b'=G.R b'/\w.heap[b']? =w.heap[b']? :=fun b' hb'=>by
  have:b'≠b:=by
   rcases hb' with hb'|hb'
   ·exact fun e=>by subst e;exact hb' q2
   ·exact hb'
  exact⟨by simp[G',this],by simp[G',this],rfl⟩
 have cj:aO G' w (E.s.del b):=by
  intro b' o hb'
  unfold ab.del at hb'
  split at hb'
  ·cases hb'
  ·rename_i hne
   obtain⟨r1,r2,r3⟩:=h.store b' o hb'
   refine⟨(same b' (.inr hne)).1.trans r1,(same b' (.inr hne)).2.1.trans r2,?_⟩
   cases o with
   |cells cs'=>
    obtain⟨c',t',r4,r5,r6⟩:=r3
    exact⟨c',t',r4,r5.mono (fun _ _ hv=>aV.vr h.aJ hv) (fun b'' j kl=>by
     obtain⟨x1,x2,x3⟩:=same b'' (.inl (by rw[kl];simp))
     exact⟨x1.trans kl,x2,x3⟩),r6⟩
   |map es=>
    obtain⟨gM,clock,r4,r5,r6⟩:=r3
    exact⟨gM,clock,r4,r5,fun j x y hx hy=>⟨aV.vr h.aJ (r6 j x y hx hy).1,aV.vr h.aJ (r6 j x y hx hy).2⟩⟩
 have hat:=h.store.at hs cF
 obtain⟨u,u1,u2,u3⟩:=hat
 have hlen:(views (AB.sub cs off (k*sz))).length=k*sz:=by simp only[views,List.length_map];exact ja cF
 have:=h.put (s':=E.s.del b) (lp':=E.lp) d (fun i hi=>by subst hi;simpa[aS]using hd) (.sl own sz k (views (AB.sub cs off (k*sz)))) (.slice (some ⟨b,off,none⟩) k cap) iR aV cj (fun _ hx=>hx) (fun i t _ ht=>ht.elim) (fun i t _⟨cs',tB⟩=>by cases tB)
  (fun i b' _ hb'=>same b' (.inl (by rcases hb' with⟨j,hb'⟩|hb'<;>rw[hb']<;>simp)))
  (fun i b' c' j _ _ hc'=>by
    obtain⟨x1,x2,x3⟩:=same c' (.inl (by rw[hc'];simp))
    exact⟨x1.trans hc',x2,x3⟩)
  (fun i hi=>by
    subst hi
    refine⟨.sl own sz k _ b off cap u u3 hlen (by rw[hlen];simp[G']) fQ u1 (fun j x hj=>aV.vr h.aJ (u2 j x hj)),?_⟩
    cases own with
    |false=>trivial
    |true=>
     intro base m' dL hv _
     injection hv with e1 e2 e3
     subst e3
     exact⟨b,off,c,t,(0,0),e1.symm,by simp[G',ob,An],by simp[G'],q4,by rw[q5.1,(qI rfl).2],fun j _ hj=>by simp at hj,Nat.le_refl _,(qI rfl).1,.inl rfl,fun j y _ hy=>by
      have hlt:j<cs.length:=by rw[<-q5.1];exact(Array.getElem?_eq_some_iff.1 hy).1
      exact pg (q6 _ (List.getElem_mem hlt)) (q5.2 j _ y (List.getElem?_eq_getElem hlt) hy).1⟩)
 exact⟨G',by cases d<;>exact this,aV⟩
theorem Inv.OZ(h:Inv G n D E a w){sz:Nat}{own:Bool}{d:Option Nat}{K:St->Prop}(hd:aS n d=true){xv:AV}{v:Value}(hbx:cO xv=true->VR w G.R xv v)(hw':zZ sz own E d K xv):∃(G':Gh)(E':St),Inv G' n D E' (a.put d v) w/\az G w G' w/\K E':=by
 unfold zZ at hw'
 split at hw'<;>try(exact hw'.elim)
 rename_i b off k cap
 replace hbx:=hbx rfl
 have empty:k=0->cap=0->off=0\/v=.slice none 0 0->Inv G n D (E.put d (.sl own sz 0 [])) (a.put d (v)) w:=by
  intro hk0 hc0 adH
  subst hk0;subst hc0
  have hvr:VR w G.R (.sl own sz 0 []) (v):=by
   rcases VR.cc hbx with e1|⟨_,_,e1⟩
   ·rcases adH with rfl|e2
    ·rw[e1];exact .sl own sz 0 [] b 0 0 (fun _=>undef) Fl.nil (by simp) (by simp) (Nat.le_refl _) (fun j c hj=>by simp at hj) (fun j c hj=>by simp at hj)
    ·rw[e2];exact .slnil _ _
   ·rw[e1];exact .slnil _ _
  have:=h.put (s':=E.s) (lp':=E.lp) d (fun i hi=>by subst hi;simpa[aS]using hd) (.sl own sz 0 []) (v) h.aJ (az.refl G w) h.store (fun _ hx=>hx) (fun i t _ ht=>ht.elim) (fun i t _⟨cs,hcs⟩=>by cases hcs)
   (fun _ _ _ _=>⟨rfl,rfl,rfl⟩) (fun _ _ _ _ _ _ hcc=>⟨hcc,rfl,rfl⟩) (fun i hdi=>by
     refine⟨hvr,?_⟩
     cases own with
     |false=>trivial
     |true=>
      intro base m' dL hv hc'
      rcases VR.cc hbx with e1|⟨_,_,e1⟩<;>rw[e1]at hv<;>injection hv with _ e2 e3<;>omega)
  cases d<;>exact this
 rcases hw' with⟨rfl,rfl,rfl,hk⟩|⟨gQ,fQ,qI,hk⟩
 ·exact⟨G,_,empty rfl rfl (.inl rfl),az.refl G w,hk⟩
 ·cases hca:iZ k sz off (E.s b)with
  |none=>rw[hca]at hk;exact hk.elim
  |some q=>
   obtain⟨q1,q2⟩:=q
   rw[hca]at hk
   obtain⟨cs,e1,e2,rfl,rfl⟩:=pF hca
   have BO:own=true->off=0/\cs.length=off+cap*sz:=fun ho=>by
    have:=(qI ho).2.2
    rw[e1]at this
    exact⟨(qI ho).1,this⟩
   obtain⟨G',h1,h2⟩:=h.frozen hd (own:=own) e1 e2 fQ BO
   have e3:=VR.pM hbx gQ
   exact⟨G',_,by rw[e3];exact h1,h2,hk⟩
theorem RD(h:Inv G n D E a w){op:Op}{ty:TypeId}{sz:Nat}{own:Bool}{x:IX}{d:Option Nat}{K:St->Prop}(hd:aS n d=true)(hc:aq P op ty (.NY sz own x)=true)(hw:gz P (.NY sz own x) d E K):mr P G n D w a op ty d K:=by
 have key:∀y,bp y x=true->∃(G':Gh)(E':St),Inv G' n D E' (a.put d (a.eval y)) w/\az G w G' w/\K E':=by
  intro y hy
  have hbx:=XR.aG h hy
  have hw':zZ sz own E d K (E.x x):=hw
  generalize E.x x=xv at hw' hbx
  refine h.OZ hd (fun hi=>?_) hw'
  cases xv<;>first|exact hbx|(simp[cO]at hi)
 intro pos after g next Q hn
 cases op<;>first|(simp[aq]at hc;done)|skip
 all_goals
  rename_i y
  obtain⟨G',E',h1,h2,hk⟩:=key y hc
  exact aI rfl (hn G' _ _ _ h1 h2 hk)
theorem M5(h:Inv G n D E a w){op:Op}{ty:TypeId}{sz:Nat}{own:Bool}{x:IX}{d:Option Nat}{K:St->Prop}(hd:aS n d=true)(hc:aq P op ty (.ux sz own x)=true)(hw:gz P (.ux sz own x) d E K):mr P G n D w a op ty d K:=by
 cases op<;>first|(simp[aq]at hc;done)|skip
 rename_i t y
 simp only[aq,Bool.and_eq_true]at hc
 obtain⟨⟨hs,hm⟩,hy⟩:=hc
 have hb:=BR.aG h hy
 have hw':GO sz own E d K (rd E (xg true E x) 1):=hw
 cases hr:rd E (xg true E x) 1 with
 |none=>rw[hr]at hw';exact hw'.elim
 |some cs=>
  rw[hr]at hw'
  obtain⟨b,off,e,hl,hat,hvw⟩:=CU h hb hr
  match cs,hl,hw' with
  |[c],hl,⟨hi,hw'⟩=>
   obtain⟨v,bk,hvr⟩:=nY hs hm rfl hl hat
   obtain⟨G',E',h1,h2,hk⟩:=h.OZ hd (v:=v) (fun _=>hvr) hw'
   intro pos after g next Q hn
   exact aI (w':=w) (by simp[execOp,e,Instr.loadAt,Instr.sureAddr,bk]) (hn G' _ _ _ h1 h2 hk)
theorem C8(h:Inv G n D E a w)(bl off:Nat)(T:cD)(hT:T≠.sh/\(∀i,T≠.loc i)/\(∀i j,T≠.cell i j)):
 bR (G.fK (.cell bl off) T) w/\az G w (G.fK (.cell bl off) T) w/\(∀b,G.O b≠.cell bl off->(G.fK (.cell bl off) T).O b=G.O b):=by
 have hne:∀b,G.O b≠.cell bl off->(G.fK (.cell bl off) T).O b=G.O b:=fun b hb=>by simp[hb]
 exact⟨⟨fun b hb=>by rw[hne b (by rw[h.aJ.ik b hb];simp),h.aJ.ik b hb],h.aJ.iT⟩,
  ⟨rfl,rfl,rfl,Nat.le_refl _,Nat.le_refl _,fun _ _=>Nat.le_refl _,fun _ _ _ _=>rfl,fun _ _ _=>rfl,fun b _ hb=>⟨by rw[hne b (by rw[hb];simp),hb],rfl⟩,fun b _ hb=>⟨by rw[hne b (by rw[hb];simp),hb],rfl⟩⟩,hne⟩
theorem cQ.fK{o T:cD}{av:AV}{v:Value}(h:cQ G w o av v):cQ (G.fK o T) w T av v:=by
 unfold cQ at h⊢
 split
 ·rename_i sz m cs
  intro base m' cap hv hc
  obtain⟨b,off,c,e,fz,q1,q2,q3⟩:=h base m' cap hv hc
  exact⟨b,off,c,e,fz,q1,by simp[q2],q3⟩
 ·rename_i e m cs
  intro base m' cap hv hc
  obtain⟨b,off,c,fz,q1,q2,q3⟩:=h base m' cap hv hc
  exact⟨b,off,c,fz,q1,by simp[q2],q3⟩
 ·trivial
def DN:AV->Bool
 |.sl _ _ _ _=>true
 |.bb _ _ _=>true
 |_=>false
theorem ET{av:AV}(h:DN av=true):oE (view av)=true:=by cases av<;>first|rfl|(cases h;done)
theorem cP.take{bl off:Nat}{T:cD}{cs:List AV}{c:Array Value}{av:AV}(h:cP G w (.cell bl) cs c)(hcs:cs[off]? =some av):
 cP (G.fK (.cell bl off) T) w (.cell bl) (setAt cs off [view av]) c:=by
 have hlt:off+1<=cs.length:=(List.getElem?_eq_some_iff.1 hcs).1
 refine⟨by rw[mq _ _ _ (by simpa using hlt)];exact h.1,fun j x y hx hy=>?_⟩
 rw[mo _ _ _ _ (by simpa using hlt)]at hx
 by_cases hj:j=off
 ·subst hj
  rw[if_pos ⟨Nat.le_refl _,by simp⟩,Nat.sub_self]at hx
  injection hx with hx;subst hx
  exact⟨(h.2 j _ y hcs hy).1.view,cQ.view ..⟩
 ·rw[if_neg (by simp;omega)]at hx
  obtain⟨h1,h2⟩:=h.2 j x y hx hy
  refine⟨h1,h2.mono fun b hb=>⟨?_,rfl,rfl⟩⟩
  have:G.O b≠.cell bl off:=by rw[hb];intro e;injection e with _ e;exact hj e
  rw[Gh.SZ,if_neg this,hb]
def loadT:Option Nat->cD
 |some i=>.slot i 0
 |none=>.frame
theorem EI(h:Inv G n D E a w){op:Op}{ty:TypeId}{x:IX}{d:Option Nat}{K:St->Prop}(hd:aS n d=true)(hc:aq P op ty (.lq x)=true)(hw:gz P (.lq x) d E K):mr P G n D w a op ty d K:=by
 cases op<;>first|(simp[aq]at hc;done)|skip
 rename_i t y
 simp only[aq,Bool.and_eq_true]at hc
 obtain⟨⟨⟨_,hs⟩,hm⟩,hy⟩:=hc
 have hbx:=XR.aG h hy
 have hw':nX E d K (E.x x):=hw
 have hT:loadT d≠.sh/\(∀i,loadT d≠.loc i)/\(∀i j,loadT d≠.cell i j):=by cases d<;>simp[loadT]
 have bk:∀(b off:Nat)(u:Value),a.eval y=.pointer (some ⟨b,off,none⟩)->w.cell? ⟨b,off,none⟩=some u->∀(pos:String)(after:Array Edge)(g:Option (Nat×Bool)),(execOp a.eval ⟨d,.load t y,ty,pos,after,g⟩).run P w=.ok (.value u) w:=by
  intro b off u e1 e2 pos after g
  have:(loadVar t ⟨b,off,none⟩).run P w=.ok u w:=by simp[loadVar,te hm,e2]
  simp[execOp,e1,Instr.loadAt,Instr.sureAddr,this]
 have aaV:∀{G1:Gh}{σ1:St}{av:AV}{u:Value},DN av=true->Inv G1 n D σ1 a w->VR w G1.R av u->cQ G1 w (loadT d) av u->Inv G1 n D (σ1.put d av) (a.put d u) w:=by
  intro G1 σ1 av u hsl h1 hv ho
  have hiv:cO av=true:=by cases av<;>first|rfl|(cases hsl;done)
  have:=h1.put (s':=σ1.s) (lp':=σ1.lp) d (fun i hi=>by subst hi;simpa[aS]using hd) av u h1.aJ (az.refl G1 w) h1.store (fun _ hx=>hx) (fun i t _ ht=>(dN hiv t ht).elim) (fun i t _⟨cs,hcs⟩=>(l8 hiv cs hcs).elim)
   (fun _ _ _ _=>⟨rfl,rfl,rfl⟩) (fun _ _ _ _ _ _ hcc=>⟨hcc,rfl,rfl⟩) (fun i hdi=>by subst hdi;rw[cN.nZ hiv];exact⟨hv,ho⟩)
  cases d<;>exact this
 have QP:∀{off:Nat}{cs:List AV}{k:List AV->AV->Prop},iD off cs k->∃av,DN av=true/\cs[off]? =some av/\k (setAt cs off [view av]) av:=by
  intro off cs k hk
  unfold iD at hk
  split at hk
  ·rename_i ow sz m ds he;exact⟨_,rfl,he,hk⟩
  ·rename_i t m ds he;exact⟨_,rfl,he,hk⟩
  ·exact hk.elim
 have QQ:∀{off:Nat}{cs:List AV}{k:List AV->AV->Prop},Dr off cs k->∃av,DN av=true/\cs[off]? =some av/\k (setAt cs off [view av]) av:=by
  intro off cs k hk
  unfold Dr at hk
  split at hk
  ·rename_i ow sz m ds he;exact⟨_,rfl,he,hk⟩
  ·exact hk.elim
 generalize E.x x=xv at hw' hbx
 unfold nX at hw'
 split at hw'<;>try(exact hw'.elim)
 ·rename_i b off
  have e1:=VR.fu hbx
  cases hsb:E.s b with
  |none=>rw[hsb]at hw';exact hw'.elim
  |some so=>
   cases so with
   |map es=>rw[hsb]at hw';exact hw'.elim
   |cells cs=>
   rw[hsb]at hw'
   obtain⟨av,hsl,hcs,hk⟩:=QP hw'
   obtain⟨q2,q3,c,et,q4,q5,q6⟩:=h.store b _ hsb
   have hlt:off<cs.length:=(List.getElem?_eq_some_iff.1 hcs).1
   have VA:off<c.size:=by rw[q5.1];exact hlt
   have cS:=Array.getElem?_eq_getElem VA
   obtain⟨hv,ho⟩:=q5.2 off _ _ hcs cS
   obtain⟨g1,g2,hne⟩:=C8 h b off (loadT d) hT
   have cj:aO (G.fK (.cell b off) (loadT d)) w (E.s.set b (.cells (setAt cs off [view av]))):=by
    intro b' o hb'
    unfold ab.set at hb'
    by_cases hbg:b'=b
    ·rw[if_pos hbg]at hb';injection hb' with hb';subst hb';subst hbg
     exact⟨by rw[hne b' (by rw[q2];simp),q2],q3,c,et,q4,q5.take hcs,xH.setAt q6 (by intro z hz;rw[List.mem_singleton]at hz;subst hz;exact ET hsl) off⟩
    ·rw[if_neg hbg]at hb'
     obtain⟨r1,r2,r3⟩:=h.store b' o hb'
     refine⟨by rw[hne b' (by rw[r1];simp),r1],r2,?_⟩
     cases o with
     |cells cs'=>
      obtain⟨c0,t0,r4,r5,r6⟩:=r3
      exact⟨c0,t0,r4,r5.mono (fun _ _ hv=>hv) (fun b'' j kl=>⟨by rw[hne b'' (by rw[kl];intro e;injection e with e _;exact hbg e),kl],rfl,rfl⟩),r6⟩
     |map es=>exact r3
   have h1:Inv (G.fK (.cell b off) (loadT d)) n D {E with s:=E.s.set b (.cells (setAt cs off [view av]))} a w:=
    ⟨g1,cj,h.size,fun k v hkv=>cN.frame (G:=G) (G':=G.fK (.cell b off) (loadT d)) (w:=w) (w':=w) (tmps:=a.tmps) (MB:=a.tmps) (fun _ _ hv=>hv) (fun b' hb'=>⟨hne b' (by rcases hb' with⟨j,hb'⟩|hb'<;>rw[hb']<;>simp),rfl,rfl⟩)
      (fun b' c' j hb' hc'=>⟨by rw[hne c' (by rw[hc'];intro e;injection e with e _;subst e;rw[q2]at hb';cases hb'),hc'],rfl,rfl⟩) _ _ (fun d _ cs hcs=>⟨cs,hcs,rfl⟩) (h.bO k v hkv),h.DE,h.JX,h.qG⟩
   intro pos after g next Q hn
   exact aI (bk b off _ e1 (by rw[cell_of_row w q4,cS]) pos after g) (hn _ _ _ _ (aaV hsl h1 hv ho.fK) g2 hk)
 ·rename_i i off
  cases hl:look E.e i<;>rw[hl]at hw'<;>first|exact hw'.elim|skip
  rename_i cs
  obtain⟨hdi,hw'⟩:=hw'
  obtain⟨av,hsl,hcs,hk⟩:=QQ hw'
  obtain⟨b,e1,e2⟩:=hbx
  have htm:=e2 cs hl
  have zC:=h.bO i _ htm
  rw[hl]at zC
  obtain⟨b',c,et,p1,p2,p3,p4,p5,p6⟩:=zC
  injection p1 with p1;injection p1 with p1;injection p1 with p1 _ _
  subst p1
  have hlt:off<cs.length:=(List.getElem?_eq_some_iff.1 hcs).1
  have VA:off<c.size:=by rw[p5.1];exact hlt
  have cS:=Array.getElem?_eq_getElem VA
  obtain⟨hv,ho⟩:=p5.2 off _ _ hcs cS
  obtain⟨g1,g2,hne⟩:=C8 h b off (loadT d) hT
  have cj:aO (G.fK (.cell b off) (loadT d)) w E.s:=h.store.mono h.aJ g2 (fun b' hb'=>⟨by rw[hne b' (by rw[hb'];simp),hb'],rfl,rfl⟩)
   (fun b' c' j hb' hc'=>⟨by rw[hne c' (by rw[hc'];intro e;injection e with e _;subst e;rw[p2]at hb';cases hb'),hc'],rfl,rfl⟩)
  have h1:Inv (G.fK (.cell b off) (loadT d)) n D (E.put (some i) (.loc (setAt cs off [view av]))) a w:=by
   refine⟨g1,cj,h.size,fun k v hkv=>?_,fun k hk'=>?_,fun k d' hk'=>?_,h.qG⟩
   ·by_cases hki:i=k
    ·subst hki
     have:look (E.put (some i) (.loc (setAt cs off [view av]))).e i=.loc (setAt cs off [view av]):=by simp[St.put,aM]
     rw[this]
     rw[htm]at hkv;injection hkv with hkv;subst hkv
     exact⟨b,c,et,rfl,by rw[hne b (by rw[p2];simp),p2],p3,p4,p5.take hcs,Fl.setAt p6 (by intro z hz;rw[List.mem_singleton]at hz;subst hz;exact ET hsl) off⟩
    ·have:look (E.put (some i) (.loc (setAt cs off [view av]))).e k=look E.e k:=by simp[St.put,aM,hki]
     rw[this]
     refine cN.frame (G:=G) (G':=G.fK (.cell b off) (loadT d)) (w:=w) (w':=w) (tmps:=a.tmps) (MB:=a.tmps) (fun _ _ hv=>hv) (fun b' hb'=>⟨hne b' (by rcases hb' with⟨j,hb'⟩|hb'<;>rw[hb']<;>simp),rfl,rfl⟩)
      (fun b' c' j hb' hc'=>⟨by rw[hne c' (by rw[hc'];intro e;injection e with e _;subst e;rw[p2]at hb';injection hb' with hb';exact hki hb'),hc'],rfl,rfl⟩) _ _ (fun d' _ cs' tB=>?_) (h.bO k v hkv)
     by_cases hdi':i=d'
     ·subst hdi';exact⟨cs,hl,rfl⟩
     ·simp only[St.put,aM,hdi',if_false]at tB
      exact⟨cs',tB,rfl⟩
   ·by_cases hki:i=k
    ·subst hki
     have:=h.DE i hk'
     rw[hl]at this;cases this
    ·simp only[St.put,aM,hki,if_false];exact h.DE k hk'
   ·by_cases hki:i=k
    ·subst hki
     simp only[St.put,aM,if_true]at hk'
     exact hk'.elim
    ·simp only[St.put,aM,hki,if_false]at hk'
     exact h.JX k d' hk'
  intro pos after g next Q hn
  exact aI (bk b off _ e1 (by rw[cell_of_row w p4,cS]) pos after g) (hn _ _ _ _ (aaV hsl h1 hv ho.fK) g2 hk)
theorem M4(h:Inv G n D E a w){op:Op}{ty:TypeId}{off:Nat}{j x:IX}{d:Option Nat}{K:St->Prop}(hd:aS n d=true)(hc:aq P op ty (.lP off j x)=true)(hw:gz P (.lP off j x) d E K):mr P G n D w a op ty d K:=by
 have hc':aq P op ty (.lq x)=true:=by cases op<;>first|exact hc|(cases hc;done)
 exact EI h hd hc' hw.2
theorem RC(h:Inv G n D E a w){op:Op}{ty:TypeId}{ne:Bool}{x:IX}{d:Option Nat}{K:St->Prop}(hd:aS n d=true)(hc:aq P op ty (.RH ne x)=true)(hw:gz P (.RH ne x) d E K):mr P G n D w a op ty d K:=by
 cases op<;>first|(simp[aq]at hc;done)|skip
 rename_i b t u v yt
 simp only[aq,Bool.and_eq_true,decide_eq_true_eq]at hc
 obtain⟨⟨⟨rfl,hx⟩,hy⟩,ht⟩:=hc
 cases hel:cq P t with
 |none=>rw[hel]at ht;cases ht
 |some e=>
 have ht:=cz hel
 have e2:a.eval v=.slice none 0 0:=by
  split at hy
  ·rfl
  ·cases hy
 have hbx:=XR.aG h hx
 have hw':M7 ne E d K (E.x x):=hw
 generalize E.x x=xv at hw' hbx
 have some_:∀(ad:Addr)(l c:Nat),a.eval u=.slice (some ad) l c->K (E.put d (.bool ne))->mr P G n D w a (.binOp (if ne=true then .neq else .eql) t u v yt) ty d K:=by
  intro ad l c e1 hk pos after g next Q hn
  have hr:(Op.equal t (.slice (some ad) l c) (.slice none 0 0)).run P w=.ok false w:=xp 9999 ht ad l c
  refine aI (v:=.bool ne) ?_ (hn G _ _ _ (h.Jy hd rfl (.bool _) rfl) (az.refl G w) hk)
  cases ne<;>simp[execOp,e1,e2,eqGuard,binOp,hr]
 have none_:a.eval u=.slice none 0 0->K (E.put d (.bool !ne))->mr P G n D w a (.binOp (if ne=true then .neq else .eql) t u v yt) ty d K:=by
  intro e1 hk pos after g next Q hn
  have key:∀q:Nat,(Op.equalIn (q+1) t (.slice none 0 0) (.slice none 0 0)).run P w=.ok true w:=fun q=>by simp[Op.equalIn,run_underlying ht]
  have hr:(Op.equal t (.slice none 0 0) (.slice none 0 0)).run P w=.ok true w:=key 9999
  refine aI (v:=.bool !ne) ?_ (hn G _ _ _ (h.Jy hd rfl (.bool _) rfl) (az.refl G w) hk)
  cases ne<;>simp[execOp,e1,e2,eqGuard,binOp,hr]
 unfold M7 at hw'
 split at hw'<;>try(exact hw'.elim)
 ·rename_i ow sz m cs
  rcases VR.fD hbx with⟨(e1|⟨_,_,_,e1⟩),rfl,_⟩|⟨b,off,cap,e1,_⟩
  ·exact none_ e1 (hw' _ fun _=>rfl)
  ·exact some_ _ _ _ e1 (hw' _ fun hh=>by cases ne<;>cases hh)
  ·exact some_ _ _ _ e1 (hw' _ fun hh=>by cases ne<;>cases hh)
 ·rename_i b off m cap
  rcases VR.cc hbx with e1|⟨_,rfl,e1⟩
  ·exact some_ _ _ _ e1 (hw' _ fun hh=>by cases ne<;>cases hh)
  ·exact none_ e1 (hw' _ fun _=>rfl)
theorem RF(h:Inv G n D E a w){op:Op}{ty:TypeId}{f:Nat}{x y:IX}{d:Option Nat}{K:St->Prop}(hd:aS n d=true)(hc:aq P op ty (.Yh f x y)=true)(hw:gz P (.Yh f x y) d E K):mr P G n D w a op ty d K:=by
 cases op<;>first|(simp[aq]at hc;done)|skip
 rename_i c
 obtain⟨callee,ys,ats⟩:=c
 simp only[aq]at hc
 split at hc<;>try(cases hc;done)
 rename_i g
 simp only[Bool.and_eq_true,beq_iff_eq]at hc
 obtain⟨rfl,hxs⟩:=hc
 obtain⟨ys⟩:=ys
 have hys:∃u v,ys=[u,v]/\bp u x=true/\bp v y=true:=by
  match ys,hxs with
  |[u,v],hxs=>
   simp only[fI,Bool.and_eq_true]at hxs
   exact⟨u,v,rfl,hxs.1,hxs.2.1⟩
  |[],hxs=>cases hxs
  |[_],hxs=>simp[fI]at hxs
  |_::_::_::_,hxs=>simp[fI]at hxs
 obtain⟨u,v,rfl,hu,hv⟩:=hys
 have hbx:=XR.aG h hu
 have hby:=XR.aG h hv
 have hw':Wy P f E d K (E.x x) (E.x y):=hw
 generalize E.x x=xv at hw' hbx
 generalize E.x y=yv at hw' hby
 unfold Wy at hw'
 split at hw'<;>try(exact hw'.elim)
 rename_i ow sz l c0 cs0 b' o' l' cp'
 obtain⟨hov,hs2,hk⟩:=hw'
 rcases VR.fD hbx with⟨_,h0,_⟩|⟨b,o,cp,e1,hl,hR,fQ,hat⟩
 ·cases h0
 have e2:=VR.pM hby (Nat.succ_pos _)
 unfold cellsIn at hs2
 split at hs2<;>try(exact hs2.elim)
 rename_i adL
 obtain⟨q0,q1',x2,t2,q1,q2,_⟩:=h.store b' _ adL
 obtain⟨uu,cS,_,_⟩:=hat
 have hc0:=cS 0 c0 rfl
 have hblk:∃x1 t1 f1,w.heap[b]? =some (.cells x1 t1 f1)/\x1.size≠0:=by
  unfold World.cell? at hc0
  split at hc0
  ·rename_i x1 t1 f1 hh
   refine⟨x1,t1,f1,hh,fun h0=>?_⟩
   have hlt:=(Array.getElem?_eq_some_iff.1 hc0).1
   omega
  ·cases hc0
 obtain⟨x1,t1,f1,p1,p2⟩:=hblk
 have hbb:b≠b':=fun e=>by
  subst e
  rw[q1']at hR
  simp only[List.length_cons]at hR
  omega
 obtain⟨w',hr,r1,r2,r3,r4,r5⟩:=hov w b b' o (l+1) cp o' l' (cp'+1) t1 t2 x1 x2 f1 hbb p1 p2 q1 (by rw[q2.1];simp)
 have aV:az G w G w':=⟨r2,r3,r4,r5,by rw[r1];exact Nat.le_refl _,fun _ _=>Nat.le_refl _,fun b k _ _=>xP r1 _,fun b _ _=>by rw[r1],fun b _ hb=>⟨hb,rfl⟩,fun b _ hb=>⟨hb,rfl⟩⟩
 have hg':bR G w':=⟨fun b hb=>h.aJ.ik b (by rw[r1]at hb;exact hb),fun b hb=>h.aJ.iT b (by rw[r1]at hb;exact hb)⟩
 have hinv:Inv G n D (E.put d (.bool false)) (a.put d (.bool false)) w':=by
  have:=h.put (s':=E.s) (lp':=E.lp) d (fun i hi=>by subst hi;simpa[aS]using hd) (.bool false) (.bool false) hg' aV (h.store.mono h.aJ aV (fun b hb=>⟨hb,rfl,by rw[r1]⟩) (fun _ c j _ hc=>⟨hc,rfl,by rw[r1]⟩)) (fun _ hx=>hx) (fun i t _ ht=>ht.elim) (fun i t _⟨cs,hcs⟩=>by cases hcs)
   (fun _ _ _ _=>⟨rfl,rfl,by rw[r1]⟩) (fun _ _ _ _ _ _ hcc=>⟨hcc,rfl,by rw[r1]⟩) (fun i hdi=>⟨.bool _,trivial⟩)
  cases d<;>exact this
 intro pos after gd next Q hn
 refine aI (w':=w') (v:=.bool false) ?_ (hn G _ _ _ hinv aV hk)
 simp[execOp,resolve,Act.eval,Deferred.ofValue,invoke]
 simp[Act.eval]at e1 e2
 rw[e1,e2,hr]
theorem Ew(a b:List AV):views (a++b)=views a++views b:=by simp[views]
theorem MZ(h:Inv G n D E a w){op:Op}{ty:TypeId}{f i:Nat}{args:List IX}{d:Option Nat}{K:St->Prop}(hd:aS n d=true)(hc:aq P op ty (.vJ f i args)=true)(hw:gz P (.vJ f i args) d E K):mr P G n D w a op ty d K:=by
 have hcc:aq P op ty (.call f args)=true:=by
  cases op<;>first|(simp[aq]at hc;done)|skip
  simp only[aq,Bool.and_eq_true]at hc
  exact hc.2
 have hw':QR i E (fun τ=>re P f τ d K (bQ (xg true τ) args)) (look E.e i):=hw
 have later:∀(G1:Gh)(τ:St),Inv G1 n D τ a w->az G w G1 w->re P f τ d K (bQ (xg true τ) args)->mr P G n D w a op ty d K:=by
  intro G1 τ h1 hp hk pos after g next Q hn
  exact Iy h1 hd hcc hk pos after g next Q fun G' E' a' w' k1 k2 k3=>hn G' E' a' w' k1 (hp.trans k2) k3
 cases hl:look E.e i<;>rw[hl]at hw'<;>first|exact hw'.elim|skip
 rename_i sz m cs
 obtain⟨hw1,hw2⟩:=hw'
 have hin:i<n:=h.Jk (by rw[hl];simp)
 have hlt:i<a.tmps.size:=by rw[h.size];exact hin
 have hs:=h.bO i _ (Array.getElem?_eq_getElem hlt)
 rw[hl]at hs
 rcases hs with⟨h1,h2,h3⟩|⟨b,cap,c,t,sp,h1,h2,h3,h4,h5,h6,h7,h8,h9,h10,h11,h12⟩
 ·subst h1;subst h2
  rcases h3 with h3|⟨b,off,h3⟩
  ·refine later G _ (h.Mr i hin (.arr 0 0 0 0) (fun t ht=>ht) (fun cs e=>by cases e) fun v hv=>?_) (az.refl G w) (hw2 rfl 0 0)
   rw[Array.getElem?_eq_getElem hlt]at hv;injection hv with hv;subst hv
   exact⟨by rw[h3];exact .FM _ _,trivial⟩
  ·refine later G _ (h.Mr i hin (.arr b off 0 0) (fun t ht=>ht) (fun cs e=>by cases e) fun v hv=>?_) (az.refl G w) (hw2 rfl b off)
   rw[Array.getElem?_eq_getElem hlt]at hv;injection hv with hv;subst hv
   exact⟨by rw[h3];exact .arr _ _ _ _,trivial⟩
 ·have Pj:E.s b=none:=by
   cases hsb:E.s b with
   |none=>rfl
   |some o=>have:=(h.store b o hsb).1;rw[h4]at this;cases this
  have adP:views sp=sp:=by
   have:views cs++views sp=cs++sp:=by rw[<-Ew];exact h12
   exact(List.append_inj this (by simp[views])).2
  let G1:Gh:=G.ot b .sh 0
  have same:∀b',b'≠b->G1.O b'=G.O b'/\G1.R b'=G.R b'/\w.heap[b']? =w.heap[b']? :=fun b' hb'=>⟨by simp[G1,hb'],by simp[G1,hb'],rfl⟩
  have hRe:∀b',G1.R b'=G.R b':=fun b'=>by
   by_cases hb:b'=b
   ·subst hb;simp[G1,h5]
   ·simp[G1,hb]
  have aV:az G w G1 w:=⟨rfl,rfl,rfl,Nat.le_refl _,Nat.le_refl _,fun b' _=>by rw[hRe];exact Nat.le_refl _,fun _ _ _ _=>rfl,fun _ _ _=>rfl,fun b' _ hb'=>by
   have:b'≠b:=fun e=>by subst e;rw[h4]at hb';cases hb'
   exact⟨(same b' this).1.trans hb',(same b' this).2.1⟩,fun b' _ hb'=>by
   have:b'≠b:=fun e=>by subst e;rw[h4]at hb';cases hb'
   exact⟨(same b' this).1.trans hb',(same b' this).2.1⟩⟩
  have hbl:b<w.heap.size:=h.aJ.lt (by rw[h4];simp)
  have iR:bR G1 w:=⟨fun b' hb'=>by
   have:b'≠b:=by omega
   rw[(same b' this).1,h.aJ.ik b' hb'],fun b' hb'=>by rw[hRe,h.aJ.iT b' hb']⟩
  have cj:aO G1 w (E.s.set b (.cells (cs++sp))):=by
   intro b' o hb'
   unfold ab.set at hb'
   by_cases hbg:b'=b
   ·rw[if_pos hbg]at hb';injection hb' with hb';subst hb';subst hbg
    refine⟨by simp[G1],by simp[G1],c,t,h6,⟨by rw[h7,h9],fun j x y hx hy=>⟨aV.vr h.aJ (h10 j x y hx hy),?_⟩⟩,h11.tag _⟩
    rw[<-h12,dH]at hx
    cases hz:(cs++sp)[j]? with
    |none=>rw[hz]at hx;cases hx
    |some x'=>rw[hz]at hx;simp at hx;rw[<-hx];exact cQ.view ..
   ·rw[if_neg hbg]at hb'
    obtain⟨r1,r2,r3⟩:=h.store b' o hb'
    refine⟨(same b' hbg).1.trans r1,(same b' hbg).2.1.trans r2,?_⟩
    cases o with
    |cells cs'=>
     obtain⟨c0,t0,r4,r5,r6⟩:=r3
     exact⟨c0,t0,r4,r5.mono (fun _ _ hv=>aV.vr h.aJ hv) (fun b'' j kl=>by
      obtain⟨x1,x2,x3⟩:=same b'' (fun e=>by subst e;rw[h4]at kl;cases kl)
      exact⟨x1.trans kl,x2,x3⟩),r6⟩
    |map es=>
     obtain⟨gM,clock,r4,r5,r6⟩:=r3
     exact⟨gM,clock,r4,r5,fun j x y hx hy=>⟨aV.vr h.aJ (r6 j x y hx hy).1,aV.vr h.aJ (r6 j x y hx hy).2⟩⟩
  have h1':Inv G1 n D ({E with s:=E.s.set b (.cells (cs++sp))}.put (some i) (.arr b 0 m cap)) a w:=by
   have ha:a.put (some i) a.tmps[i]=a:=by
    have:a.tmps.setIfInBounds i a.tmps[i]=a.tmps:=by rw[Array.setIfInBounds,dif_pos hlt,Array.set_getElem_self]
    simp[Act.put,this]
   have:=h.put (s':=E.s.set b (.cells (cs++sp))) (lp':=E.lp) (some i) (fun j hj=>by injection hj with hj;subst hj;exact hin) (.arr b 0 m cap) a.tmps[i] iR aV cj (fun _ hx=>hx) (fun j t _ ht=>ht.elim) (fun j t _⟨cs,hcs⟩=>by cases hcs)
    (fun j b' hj hb'=>same b' (fun e=>by
      subst e
      rcases hb' with⟨q,hb'⟩|hb'<;>rw[h4]at hb'
      ·injection hb' with hb' _;exact hj (by rw[hb'])
      ·cases hb'))
    (fun j b' c' q _ _ hc'=>by
      obtain⟨x1,x2,x3⟩:=same c' (fun e=>by subst e;rw[h4]at hc';cases hc')
      exact⟨x1.trans hc',x2,x3⟩)
    (fun j hj=>by
      injection hj with hj;subst hj
      exact⟨by rw[h3];exact .arr _ _ _ _,trivial⟩)
   rw[ha]at this
   exact this
  exact later G1 _ h1' aV (hw1 b cap sp Pj h1 h2 h9 h11 adP)
theorem Mf{R:Nat->Nat}{sz:Nat}{c:AV}{u:Value}(h:VR w R c u):VR w R (wY sz c) u:=by
 unfold wY
 split
 ·rename_i b
  rcases VR.cc h with e|⟨_,_,e⟩
  ·rw[e];exact .sl true sz 0 [] b 0 0 (fun _=>undef) Fl.nil (by simp) (by simp) (Nat.le_refl _) (fun j c hj=>by simp at hj) (fun j c hj=>by simp at hj)
  ·rw[e];exact .slnil _ _
 ·exact h
theorem Jn{R:Nat->Nat}{o:cD}{sz:Nat}{c:AV}{u:Value}(h:VR w R c u):cQ G w o (wY sz (view c)) u:=by
 unfold wY
 split
 ·rename_i b hb
  have:c=.arr b 0 0 0:=by cases c<;>simp[view]at hb<;>simp[hb]
  subst this
  intro base m cap hv hc
  rcases VR.cc h with e|⟨_,_,e⟩<;>rw[e]at hv<;>injection hv with _ e2 e3<;>omega
 ·exact cQ.view ..
theorem Fb{sz:Nat}{c:AV}(h:oE c=true):oE (wY sz c)=true:=by
 unfold wY
 split
 ·rfl
 ·exact h
theorem JR{sz:Nat}{av:AV}{v:Value}(hi:cO av=true)(h:VR w G.R av v):Fl (b7 sz av)/\v.cells.toList.length=(b7 sz av).length/\(∀(j:Nat)(x:AV)(y:Value),(b7 sz av)[j]? =some x->v.cells.toList[j]? =some y->VR w G.R x y)/\
 (∀y∈v.cells.toList,y.oneCell'=true):=by
 obtain⟨h1,h2,h3,h4⟩:=Di hi h
 cases av with
 |agg cs=>
  simp only[aU]at h1 h2 h3
  refine⟨fun c hc=>?_,by simp only[b7,List.length_map];exact h2,fun j x y hx hy=>?_,h4⟩
  ·simp only[b7,List.mem_map]at hc
   obtain⟨c',hc',rfl⟩:=hc
   exact Fb (h1 c' hc')
  ·simp only[b7,List.getElem?_map]at hx
   cases hz:(views cs)[j]? with
   |none=>rw[hz]at hx;cases hx
   |some x'=>rw[hz]at hx;simp at hx;rw[<-hx];exact Mf (h3 j x' y hz hy)
 |_=>exact⟨h1,h2,h3,h4⟩
theorem Ks(h:Inv G n D E a w){op:Op}{ty:TypeId}{sz m:Nat}{p v:IX}{d:Option Nat}{K:St->Prop}(hd:aS n d=true)(hc:aq P op ty (.zg sz m p v)=true)(hw:gz P (.zg sz m p v) d E K):mr P G n D w a op ty d K:=by
 cases op<;>first|(simp[aq]at hc;done)|skip
 rename_i t q u
 simp only[aq,Bool.and_eq_true]at hc
 obtain⟨⟨hs,hq⟩,hu⟩:=hc
 obtain⟨hi,hm,hk⟩:=hw
 have hvr:VR w G.R (E.x v) (a.eval u):=by
  have:=XR.aG h hu
  generalize E.x v=av at hi this
  cases av<;>first|exact this|(simp[cO]at hi)
 have target:∃g off dJ,a.eval q=.pointer (some ⟨g,off,none⟩)/\
  ((∃i,look E.e i=.loc dJ/\a.tmps[i]? =some (.pointer (some ⟨g,0,none⟩))/\Ex (E.drain v) (E.x p) p (b7 sz (E.x v))=Tk (E.drain v) i (dt off (b7 sz (E.x v)) dJ))\/
   (E.s g=some (.cells dJ)/\Ex (E.drain v) (E.x p) p (b7 sz (E.x v))=Tl (E.drain v) g (dt off (b7 sz (E.x v)) dJ))):=by
  have hb:=XR.aG h hq
  cases hp:E.x p with
  |loc dJ=>
   rw[hp]at hb
   obtain⟨i,b,c,t',e1,e2,e3,e4,_⟩:=hb
   refine⟨b,0,dJ,e4,.inl ⟨i,e2,by rw[e3,e4],?_⟩⟩
   subst e1;rfl
  |lp d0 off=>
   rw[hp]at hb hk
   obtain⟨b,e1,e2⟩:=hb
   have hk':JY d K (FD (E.drain v) d0 off (b7 sz (E.x v)) (look (E.drain v).e d0)):=hk
   cases hl:look (E.drain v).e d0<;>rw[hl]at hk'<;>first|exact hk'.elim|skip
   rename_i dJ
   have hl':=Co hi hl
   exact⟨b,off,dJ,e1,.inl ⟨d0,hl',e2 dJ hl',by show FD _ _ _ _ (look (E.drain v).e d0)=_;rw[hl];rfl⟩⟩
  |ref b off=>
   rw[hp]at hb hk
   have e1:=VR.fu hb
   have hk':JY d K (Lr (E.drain v) b off (b7 sz (E.x v)) ((E.drain v).s b)):=hk
   have hs':(E.drain v).s=E.s:=by cases v<;>rfl
   rw[hs']at hk'
   cases hl:E.s b with
   |none=>rw[hl]at hk';exact hk'.elim
   |some so=>
    cases so with
    |map es=>rw[hl]at hk';exact hk'.elim
    |cells dJ=>exact⟨b,off,dJ,e1,.inr ⟨hl,by show Lr _ _ _ _ ((E.drain v).s b)=_;rw[hs',hl];rfl⟩⟩
  |_=>rw[hp]at hk;exact hk.elim
 obtain⟨g,off,dJ,e1,VH⟩:=target
 obtain⟨G1,h1,hp1,hv1,kW,hR1,hsh,Ph,cS⟩:=h.drain hu hi (.cell g off) (by simp) (by simp)
 obtain⟨hfl,hlen,oJ,BN⟩:=JR (sz:=sz) hi hv1
 have BO:∀(j:Nat)(x:AV)(y:Value),(b7 sz (E.x v))[j]? =some x->(a.eval u).cells.toList[j]? =some y->VR w G1.R x y/\cQ G1 w (.cell g (off+j)) x y:=by
  intro j x y hx hy
  refine⟨oJ j x y hx hy,?_⟩
  cases hv:E.x v with
  |agg cs=>
   rw[hv]at hx hv1
   obtain⟨vs,e,hl,hr,_⟩:=VR.wj hv1
   simp only[b7,List.getElem?_map]at hx
   rw[dH]at hx
   cases hc0:cs[j]? with
   |none=>rw[hc0]at hx;cases hx
   |some c0=>
    rw[hc0]at hx;simp at hx;rw[<-hx]
    rw[e]at hy
    exact Jn (hr j c0 y hc0 (by simpa[Value.cells]using hy))
  |sl o s l cs=>
   rw[hv]at hx kW hv1
   cases j with
   |succ j=>simp[b7]at hx
   |zero=>
   simp[b7]at hx
   subst hx
   have:(a.eval u).cells= #[a.eval u]:=by rcases VR.fD hv1 with⟨(e|⟨_,_,_,e⟩),_⟩|⟨_,_,_,e,_⟩<;>rw[e]<;>rfl
   rw[this]at hy
   simp at hy
   subst hy
   exact kW
  |bb t l cs=>
   rw[hv]at hx kW hv1
   cases j with
   |succ j=>simp[b7]at hx
   |zero=>
   simp[b7]at hx
   subst hx
   have VI:VR w G1.R (.sl true 1 l cs) (a.eval u):=by cases hv1;assumption
   have:(a.eval u).cells= #[a.eval u]:=by rcases VR.fD VI with⟨(e|⟨_,_,_,e⟩),_⟩|⟨_,_,_,e,_⟩<;>rw[e]<;>rfl
   rw[this]at hy
   simp at hy
   subst hy
   exact kW
  |_=>
   rw[hv]at hx
   cases j with
   |succ j=>simp[b7]at hx
   |zero=>simp[b7]at hx;subst hx;trivial
 have vY:(a.eval u).cells.toList.length=m:=by rw[hlen,hm]
 have oH:∀(τ:St)(w':World),Inv G1 n D τ a w'->Inv G1 n D (τ.put d (.gb [])) (a.put d undef) w':=by
  intro τ w' hτ
  have:=hτ.put (s':=τ.s) (lp':=τ.lp) d (fun i hi=>by subst hi;simpa[aS]using hd) (.gb []) undef hτ.aJ (az.refl G1 w') hτ.store (fun _ hx=>hx) (fun i t _ ht=>ht.elim) (fun i t _⟨cs,hcs⟩=>by cases hcs)
   (fun _ _ _ _=>⟨rfl,rfl,rfl⟩) (fun _ _ _ _ _ _ hcc=>⟨hcc,rfl,rfl⟩) (fun i hdi=>⟨#[],rfl,rfl,fun j x y hx=>by simp at hx⟩)
  cases d<;>exact this
 rcases VH with⟨i,e2,e3,e4⟩|⟨e2,e4⟩
 ·
  rw[e4]at hk
  cases hwr:dt off (b7 sz (E.x v)) dJ with
  |none=>rw[hwr]at hk;exact hk.elim
  |some cs'=>
   rw[hwr]at hk
   obtain⟨cF,rfl⟩:=qg hwr
   have e2':look (E.drain v).e i=.loc dJ:=zJ hi e2
   have zC:=h1.bO i _ e3
   rw[e2']at zC
   obtain⟨b,c,t',q1,q2,q3,q4,q5,q6⟩:=zC
   injection q1 with q1;injection q1 with q1;injection q1 with q1 _ _
   subst q1
   have hne:∀j,G1.O g≠.cell g j:=fun j=>by rw[q2];simp
   have tW:off+(a.eval u).cells.toList.length<=c.size:=by rw[hlen,q5.1];exact cF
   have bk:=me (P:=P) hs q4 (v:=a.eval u) (by simpa using vY) (by rw[<-vY];exact tW) BN
   have aV:az G1 w G1 (w.setRow g (laid c off (a.eval u).cells.toList)):=az.write q4 (by rw[q2];simp) (fun k hk=>by rw[q3]at hk;omega) (Nat.le_refl _) (fun _ _=>⟨rfl,rfl⟩)
   have gq:=cP.lay q4 aV h1.aJ q5 hlen cF hne BO
   obtain⟨h2,_⟩:=h1.written (E':=(E.drain v).put (some i) (.loc (setAt dJ off (b7 sz (E.x v))))) q4 (.inl ⟨i,q2⟩) q3 rfl
    (h1.store.mono h1.aJ aV (fun b hb=>⟨hb,rfl,setRow_other w g b _ (fun e=>by subst e;rw[q2]at hb;cases hb)⟩) (fun b c j _ hc=>⟨hc,rfl,setRow_other w g c _ (fun e=>by subst e;rw[q2]at hc;cases hc)⟩))
    (fun k=>by
      by_cases hki:i=k
      ·subst hki
       exact .inr ⟨q2,e3,dJ,_,e2',by simp[St.put,aM],gq,Fl.setAt q6 hfl off⟩
      ·refine .inl ⟨by simp[St.put,aM,hki],?_⟩
       rw[q2];intro e;injection e with e;exact hki e)
   intro pos after gd next Q hn
   exact px (w':=w.setRow g (laid c off (a.eval u).cells.toList)) (by simp[execOp,e1,Instr.storeAt,Instr.sureAddr,bk]) (hn G1 _ _ _ (oH _ _ h2) (hp1.trans aV) hk)
 ·
  rw[e4]at hk
  cases hwr:dt off (b7 sz (E.x v)) dJ with
  |none=>rw[hwr]at hk;exact hk.elim
  |some cs'=>
   rw[hwr]at hk
   obtain⟨cF,rfl⟩:=qg hwr
   have hs':(E.drain v).s=E.s:=by cases v<;>rfl
   obtain⟨q2,q3,c,t',q4,q5,q6⟩:=h1.store g (.cells dJ) (by rw[hs'];exact e2)
   have hne:∀j,G1.O g≠.cell g j:=fun j=>by rw[q2];simp
   have tW:off+(a.eval u).cells.toList.length<=c.size:=by rw[hlen,q5.1];exact cF
   have bk:=me (P:=P) hs q4 (v:=a.eval u) (by simpa using vY) (by rw[<-vY];exact tW) BN
   have aV:az G1 w G1 (w.setRow g (laid c off (a.eval u).cells.toList)):=az.write q4 (by rw[q2];simp) (fun k hk=>by rw[q3]at hk;omega) (Nat.le_refl _) (fun _ _=>⟨rfl,rfl⟩)
   have gq:=cP.lay q4 aV h1.aJ q5 hlen cF hne BO
   have cj:aO G1 (w.setRow g (laid c off (a.eval u).cells.toList)) ((E.drain v).s.set g (.cells (setAt dJ off (b7 sz (E.x v))))):=by
    intro b o hb
    unfold ab.set at hb
    by_cases hbg:b=g
    ·rw[if_pos hbg]at hb;injection hb with hb;subst hb;subst hbg
     exact⟨q2,q3,_,t',setRow_heap w b c _ t' _ q4,gq,xH.setAt q6 hfl off⟩
    ·rw[if_neg hbg]at hb
     obtain⟨r1,r2,r3⟩:=h1.store b o hb
     refine⟨r1,r2,?_⟩
     have hbk:=setRow_other w g b (laid c off (a.eval u).cells.toList) hbg
     cases o with
     |cells cs=>
      obtain⟨c0,t0,r4,r5,r6⟩:=r3
      exact⟨c0,t0,hbk.trans r4,r5.mono (fun _ _ hv=>aV.vr h1.aJ hv) (fun b' j hb'=>⟨hb',rfl,setRow_other w g b' _ (fun e=>by subst e;rw[q2]at hb';cases hb')⟩),r6⟩
     |map es=>
      obtain⟨gM,clock,r4,r5,r6⟩:=r3
      exact⟨gM,clock,hbk.trans r4,r5,fun j x y hx hy=>⟨aV.vr h1.aJ (r6 j x y hx hy).1,aV.vr h1.aJ (r6 j x y hx hy).2⟩⟩
   obtain⟨h2,_⟩:=h1.written (E':={E.drain v with s:=(E.drain v).s.set g (.cells (setAt dJ off (b7 sz (E.x v))))}) q4 (.inr q2) q3 rfl cj
    (fun k=>.inl ⟨rfl,by rw[q2];simp⟩)
   intro pos after gd next Q hn
   exact px (w':=w.setRow g (laid c off (a.eval u).cells.toList)) (by simp[execOp,e1,Instr.storeAt,Instr.sureAddr,bk]) (hn G1 _ _ _ (oH _ _ h2) (hp1.trans aV) hk)
theorem OO(h:Inv G n D E a w){op:Op}{ty:TypeId}{sz m:Nat}{x:IX}{d:Option Nat}{K:St->Prop}(hd:aS n d=true)(hc:aq P op ty (.FQ sz m x)=true)(hw:gz P (.FQ sz m x) d E K):mr P G n D w a op ty d K:=by
 cases op<;>first|(simp[aq]at hc;done)|skip
 rename_i t y
 simp only[aq,Bool.and_eq_true]at hc
 obtain⟨hi,_,hk⟩:=hw
 have hvr:VR w G.R (E.x x) (a.eval y):=by
  have:=XR.aG h hc.2
  generalize E.x x=av at hi this
  cases av<;>first|exact this|(simp[cO]at hi)
 have gJ:=gh hi hvr
 have hcs:∀(G':Gh)(w':World)(o:Nat->cD),az G w G' w'->cP G' w' o ((views (cellsOf (E.x x))).map (wY sz)) (a.eval y).cells:=by
  intro G' w' o hp
  refine⟨by simp only[List.length_map,views];exact gJ.1,fun j c u hcj hu=>?_⟩
  simp only[List.getElem?_map]at hcj
  rw[dH]at hcj
  cases hz:(cellsOf (E.x x))[j]? with
  |none=>rw[hz]at hcj;cases hcj
  |some c0=>
   rw[hz]at hcj;simp at hcj
   have h1:=hp.vr h.aJ (gJ.2.1 j c0 u hz hu)
   rw[<-hcj]
   exact⟨Mf h1.view,Jn h1⟩
 have hfl:Fl ((views (cellsOf (E.x x))).map (wY sz)):=by
  intro c hc'
  simp only[List.mem_map]at hc'
  obtain⟨c',h1,rfl⟩:=hc'
  exact Fb (gJ.2.2.views c' h1)
 intro pos after g next Q hn
 obtain⟨G',h1,h2⟩:=h.KU hd (t:=t) (.inl ⟨rfl,rfl⟩) hcs hfl
 refine aI ?_ (hn G' _ _ _ h1 h2 (hk w.heap.size (h.store.get_none h.aJ)))
 simp[execOp,Instr.box,newVar,newRow]
end
section
variable{P:Program}{G G':Gh}{n:Nat}{D:List Deferred}{E:St}{a:Act}{w w':World}
theorem VR.R6{R:Nat->Nat}{t:Nat}{cs:List AV}{v:Value}(h:VR w R (.bb t 0 cs) v):v=.slice none 0 0:=by cases h with|bb _ _ _ _ h h0=>exact h0 rfl
theorem VR.Px{R:Nat->Nat}{t n:Nat}{cs:List AV}{v:Value}(h:VR w R (.bb t n cs) v):VR w R (.sl true 1 n cs) v:=by cases h;assumption
theorem Inv.aaG(h:Inv G n D E a w){d:Option Nat}(hd:aS n d=true){m cap:Nat}{cs:List AV}{c:Array Value}{t:TypeId}{ob:cD}(hm0:0<m)(hob:∀i,d=some i->ob=.slot i 0)(adG:d=none->ob=.none)
 (hl:cs.length=m*1)(fQ:m<=cap)(hsz:c.size=cap*1)(hfl:Fl cs)
 (hcs:∀(j:Nat)(x:AV),cs[j]? =some x->∃y,c[j]? =some y/\VR w G.R x y)(fz:Nat×Nat)(hfz:(∀k,k<c.size->¬(fz.1<=k/\k<fz.2))/\fz.1<=fz.2)(hz0:fz=(0,0)\/(0<m/\∃x,c[0]? =some (.int .u8 x)))(hsp:∀(k:Nat)(y:Value),m*1<=k->c[k]? =some y->y.oneCell'=true):
 ∃G',Inv G' n D (E.put d (.bb t m cs)) (a.put d (.slice (some ⟨w.heap.size,0,none⟩) m cap)) (w.alloc (.cells c t fz))/\az G w G' (w.alloc (.cells c t fz)):=by
 have hp:=(eG h.aJ (.cells c t fz) ob cs.length).2.1
 obtain⟨h1,h2⟩:=h.alloc (.cells c t fz) ob cs.length d hd (.bb t m cs) (.slice (some ⟨w.heap.size,0,none⟩) m cap) E.lp (jv h.store h.aJ _ ob cs.length) (fun _ hx=>hx) (fun i t' _ ht=>ht.elim)
  (fun i t' _⟨cs',tB⟩=>by cases tB)
  (fun i hi=>by
    refine⟨?_,?_⟩
    ·refine .bb t m cs _ (.sl true 1 m cs w.heap.size 0 cap (fun j=>c.getD j undef) hfl hl (by simp) fQ (fun j x hj=>?_) (fun j x hj=>?_)) (fun e=>by omega)
     ·obtain⟨y,hy,_⟩:=hcs j x hj
      rw[Nat.zero_add,cell_of_row _ (heap_alloc_new w _),hy]
      simp[Array.getD_eq_getD_getElem?,hy]
     ·obtain⟨y,hy,hv⟩:=hcs j x hj
      have:c.getD j undef=y:=by simp[Array.getD_eq_getD_getElem?,hy]
      rw[this]
      exact hp.vr h.aJ hv
    ·intro base m' dL hv hc
     injection hv with e1 e2 e3
     subst e3
     exact⟨w.heap.size,0,c,fz,e1.symm,by simp[hob i hi],by simp[hl],heap_alloc_new w _,by rw[hsz,Nat.zero_add],hfz.1,hfz.2,rfl,hz0,fun k y hk=>hsp k y (by omega)⟩)
 exact⟨_,by cases d<;>exact h1,h2⟩
theorem Inv.Vm(h:Inv G n D E a w){d:Option Nat}(hd:aS n d=true){b off k m cap:Nat}{c:Array Value}{t:TypeId}{fz:Nat×Nat}{cs ds:List AV}{v:Value}{news:List Value}{R:Nat->Nat}
 (hb:w.heap[b]? =some (.cells c t fz))(hfz:(∀j,j<c.size->¬(fz.1<=j/\j<fz.2))/\fz.1<=fz.2)(hof:off=0)(hz0:fz=(0,0)\/(0<k/\0<1/\∃x,c[0]? =some (.int .u8 x)))(hsp:∀(i:Nat)(y:Value),off+k*1<=i->c[i]? =some y->y.oneCell'=true)(ho:∀i,d=some i->G.O b=.slot i 0)(hon:G.O b≠.none/\G.O b≠.frame/\G.O b≠.sh/\(∀i,G.O b≠.loc i)/\(∀i j,G.O b≠.cell i j)/\(∀i j,G.O b=.slot i j->d=some i/\j=0))
 (hR:G.R b=off+k*1)(hsz:c.size=off+cap*1)(fQ:k+m<=cap)(hkm:0<k+m)(hlc:cs.length=k*1)(hat:At w G.R b off cs)(hs:Src P w R 1 m ds v news)(hRR:R=G.R):
 ∃G',Inv G' n D (E.put d (.bb t (k+m) (cs++ds))) (a.put d (.slice (some ⟨b,off,none⟩) (k+m) cap)) (w.setRow b (laid c (off+k*1) news))/\az G w G' (w.setRow b (laid c (off+k*1) news)):=by
 subst hRR
 have cF:off+k*1+news.length<=c.size:=by
  rw[hs.len,hsz,Nat.add_assoc,<-Nat.add_mul]
  exact Nat.add_le_add_left (Nat.mul_le_mul_right _ fQ) _
 let G':=G.ot b (G.O b) (off+(k+m)*1)
 have hmul:(k+m)*1=k*1+m*1:=Nat.add_mul ..
 have aV:az G w G' (w.setRow b (laid c (off+k*1) news)):=az.write hb ⟨hon.2.1,hon.1⟩
  (fun j hj=>by rw[hR]at hj;rw[j4 _ _ _ cF,if_neg (by omega)]) (by simp only[G',Gh.UM,if_true,hR,hmul];omega) (fun b' hb'=>by simp[G',hb'])
 have iR:bR G' (w.setRow b (laid c (off+k*1) news)):=by
  have hlt:b<w.heap.size:=h.aJ.lt hon.1
  refine⟨fun b' hb'=>?_,fun b' hb'=>?_⟩
  ·have kl:w.heap.size<=b':=by simpa[World.setRow]using hb'
   have:b'≠b:=by omega
   simp[G',this,h.aJ.ik b' kl]
  ·have kl:w.heap.size<=b':=by simpa[World.setRow]using hb'
   have:b'≠b:=by omega
   simp[G',this,h.aJ.iT b' kl]
 have same:∀b',b'≠b->G'.O b'=G.O b'/\G'.R b'=G.R b'/\(w.setRow b (laid c (off+k*1) news)).heap[b']? =w.heap[b']? :=fun b' hb'=>⟨by simp[G',hb'],by simp[G',hb'],setRow_other w b b' _ hb'⟩
 have cj:=h.store.mono h.aJ aV (fun b' hb'=>by
  obtain⟨q1,q2,q3⟩:=same b' (fun e=>by subst e;exact hon.2.2.1 hb')
  exact⟨q1.trans hb',q2,q3⟩) (fun b' c' j _ hc'=>by
  obtain⟨q1,q2,q3⟩:=same c' (fun e=>by subst e;exact hon.2.2.2.2.1 _ _ hc')
  exact⟨q1.trans hc',q2,q3⟩)
 have:=h.put (s':=E.s) (lp':=E.lp) d (fun i hi=>by subst hi;simpa[aS]using hd) (.bb t (k+m) (cs++ds)) (.slice (some ⟨b,off,none⟩) (k+m) cap) iR aV cj (fun _ hx=>hx) (fun i t _ ht=>ht.elim) (fun i t _⟨cs',tB⟩=>by cases tB)
  (fun i b' hdi hb'=>same b' (fun e=>by
    subst e
    rcases hb' with⟨j,hb'⟩|hb'
    ·exact hdi (hon.2.2.2.2.2 i j hb').1
    ·exact hon.2.2.2.1 _ hb'))
  (fun i b' c' j hdi hb' hc'=>by
    obtain⟨q1,q2,q3⟩:=same c' (fun e=>by subst e;exact hon.2.2.2.2.1 _ _ hc')
    exact⟨q1.trans hc',q2,q3⟩)
  (fun i hi=>by
    obtain⟨u,u1,u2,u3⟩:=hat
    subst hi
    refine⟨?_,?_⟩
    ·have hll:(cs++ds).length=(k+m)*1:=by rw[List.length_append,hlc,hs.nW,hmul]
     refine .bb t (k+m) (cs++ds) _ (.sl true 1 (k+m) (cs++ds) b off cap (fun j=>if j<k*1 then u j else news.getD (j -k*1) undef) (fun x hx=>?_) hll (by rw[hll];simp[G']) fQ (fun j x hj=>?_) (fun j x hj=>?_)) (fun e=>by omega)
     ·rcases List.mem_append.1 hx with hx|hx
      ·exact u3 x hx
      ·exact hs.fl x hx
     ·rw[su hb,if_pos rfl,j4 _ _ _ cF]
      have hjl:j<(k+m)*1:=by rw[<-hll];exact(List.getElem?_eq_some_iff.1 hj).1
      by_cases hjk:j<k*1
      ·rw[if_neg (by omega),if_pos hjk]
       rw[List.getElem?_append_left (by rw[hlc];exact hjk)]at hj
       rw[<-cell_of_row w hb]
       exact u1 j x hj
      ·have h1:=hs.len
       rw[if_pos (by omega),if_neg hjk]
       have:off+j -(off+k*1)=j -k*1:=by omega
       rw[this]
       have hlt:j -k*1<news.length:=by omega
       rw[List.getD_eq_getElem?_getD,List.getElem?_eq_getElem hlt];rfl
     ·by_cases hjk:j<k*1
      ·rw[if_pos hjk]
       rw[List.getElem?_append_left (by rw[hlc];exact hjk)]at hj
       exact aV.vr h.aJ (u2 j x hj)
      ·rw[if_neg hjk]
       rw[List.getElem?_append_right (by rw[hlc];omega),hlc]at hj
       have h1:=hs.len
       have h2:=hs.nW
       have hlt:j -k*1<news.length:=by have:=(List.getElem?_eq_some_iff.1 hj).1;omega
       have hn:news[j -k*1]? =some (news.getD (j -k*1) undef):=by rw[List.getD_eq_getElem?_getD,List.getElem?_eq_getElem hlt];rfl
       exact aV.vr h.aJ (hs.ki _ x _ hj hn)
    ·intro base m' dL hv hc
     injection hv with e1 e2 e3
     subst e3
     exact⟨b,off,_,fz,e1.symm,by simp only[G',Gh.QS,if_true];exact ho i rfl,by simp[G'],setRow_heap w b c _ t fz hb,by rw[oY _ _ _ cF,hsz],by rw[oY _ _ _ cF];exact⟨hfz.1,hfz.2,hof,hz0.imp id fun⟨z1,z2,x,z3⟩=>⟨by omega,x,by
      have zp:0<k*1:=Nat.mul_pos z1 z2
      rw[j4 _ _ _ cF,if_neg (by omega)];exact z3⟩,fun i y hi hy=>by
      rw[j4 _ _ _ cF]at hy
      split at hy
      ·exact hs.one _ (List.mem_of_getElem? hy)
      ·exact hsp i y (by rw[hmul]at hi;omega) hy⟩⟩)
 exact⟨G',by cases d<;>exact this,aV⟩
theorem Iv(h:Inv G n D E a w){op:Op}{ty:TypeId}{tb:Nat}{x y:IX}{d:Option Nat}{K:St->Prop}(hd:aS n d=true)(hc:aq P op ty (.lU tb x y)=true)(hw:gz P (.lU tb x y) d E K):mr P G n D w a op ty d K:=by
 cases op<;>first|(simp[aq]at hc;done)|skip
 rename_i c
 simp only[aq]at hc
 split at hc<;>try(cases hc;done)
 rename_i u v t t' hb
 have hce:=nN hb
 subst hce
 simp only[Bool.and_eq_true]at hc
 obtain⟨⟨hu,hv⟩,hc⟩:=hc
 split at hc<;>try(cases hc;done)
 rename_i e ht
 have ht:=cz ht
 simp only[Bool.and_eq_true]at hc
 obtain⟨⟨⟨⟨hs,hby⟩,hzl⟩,ht'⟩,heb⟩:=hc
 obtain rfl:e=tb:=by simpa using heb
 obtain⟨i,z,hi,hz,hzs,hz1⟩:=Dw hzl
 obtain⟨i',hi',oG⟩:=jF hs
 rw[hi]at hi';injection hi' with hi';subst hi'
 have gQ:0<1:=Nat.one_pos
 have oF:0<1:=Nat.one_pos
 have hby:i.bytes=1:=by
  unfold jQ at hby
  rw[hi]at hby
  simpa using hby
 have ht2:(∃e',P.underlying t'=some (.slice e'))\/P.underlying t'=some .string:=by
  rcases Bool.or_eq_true .. ▸ht' with h|h
  ·cases he:cq P t' with
   |none=>rw[he]at h;cases h
   |some e'=>exact .inl ⟨e',cz he⟩
  ·exact .inr (xw h)
 have hw':oA e E x d K (E.x x) (E.x y):=hw
 have key:∃k m cs ds news,E.x x=.bb e k cs/\Src P w G.R 1 m ds (a.eval v) news/\(k+m)*1<=room/\K ((E.drain x).put d (.bb e (k+m) (cs++ds))):=by
  have hbx:=XR.aG h hu
  have hby:=XR.aG h hv
  generalize hx:E.x x=xv at hw' hbx
  generalize hy:E.x y=yv at hw' hby
  unfold oA at hw'
  split at hw'<;>try(exact hw'.elim)
  ·rename_i t' k cs o s' m ds
   obtain⟨rfl,h2,h3,h4⟩:=hw'
   obtain⟨news,c6⟩:=Src.Uh (P:=P) hby h2
   exact⟨k,m,cs,views ds,news,rfl,c6,h3,h4⟩
  ·rename_i t' k cs ds
   obtain⟨rfl,h3,h4⟩:=hw'
   have e1:=VR.eV hby
   exact⟨k,ds.length,cs,_,_,rfl,by rw[e1];exact Src.G6,h3,h4⟩
 obtain⟨k,m,cs,ds,news,hx,c6,bz,hk⟩:=key
 have hiv:cO (E.x x)=true:=by rw[hx];rfl
 obtain⟨G1,h1,hp1,hv1,kW,hR1,hsh,Ph,cS⟩:=h.drain hu hiv (An d) (by cases d<;>simp[An]) (by cases d<;>simp[An])
 rw[hx]at hv1 kW
 have oI:Src P w G1.R 1 m ds (a.eval v) news:=by rw[hR1];exact c6
 have grow:∀(base:Option Addr)(cap:Nat)(olds:List Value),a.eval u=.slice base k cap->cap<k+m->olds.length=k*1->cs.length=k*1->Fl cs->
  (Builtin.firstCells 1 k (.slice base k cap)).run P w.drew=.ok olds.toArray w.drew->(∀(j:Nat)(c:AV)(u:Value),cs[j]? =some c->olds[j]? =some u->VR w G1.R c u)->
  mr P G n D w a (.call {callee:=.builtin .append,args:= #[u,v],argTypes:= #[t,t']}) ty d K:=by
  intro base cap olds e1 BM hol hcl hcf hold oJ
  have bk:=p9 (ty:=ty) ht ht2 hi hz oG oI hold BM (by rw[hby];exact bz) (by rw[hby];exact oF)
  have hge:k+m<=grownCap w (k+m) cap e:=grownCap_ge w (k+m) cap e
  obtain⟨G2,h3,h4⟩:=(h1.drew).aaG (t:=e) (c:=olds.toArray++news.toArray++Builtin.zeroCells z.cells (grownCap w (k+m) cap e -(k+m))) (m:=k+m) (cs:=cs++ds) (cap:=grownCap w (k+m) cap e) (ob:=match d with|some i=>.slot i 0|none=>.none) hd (by omega)
   (fun i hi=>by subst hi;rfl) (fun hn=>by subst hn;rfl) (by rw[List.length_append,hcl,c6.nW,Nat.add_mul]) hge (by
     simp only[Array.size_append,List.size_toArray,size_zeroCells,hol,c6.len,hzs,<-Nat.add_mul]
     congr 1;omega) (fun c hc=>by
     rcases List.mem_append.1 hc with hc|hc
     ·exact hcf c hc
     ·exact c6.fl c hc)
   (fun j x hj=>by
     have hl1:=c6.len
     have hl2:=c6.nW
     by_cases hjk:j<k*1
     ·rw[List.getElem?_append_left (by rw[hcl];exact hjk)]at hj
      have hlt:j<olds.length:=by rw[hol];exact hjk
      refine⟨olds[j],?_,?_⟩
      ·rw[Array.append_assoc,Array.getElem?_append_left (by simpa using hlt)]
       simp[hlt]
      ·exact(az.drew G1 w).vr h1.aJ (oJ j x _ hj (List.getElem?_eq_getElem hlt))
     ·rw[List.getElem?_append_right (by rw[hcl];omega),hcl]at hj
      have hlt:j -k*1<news.length:=by have:=(List.getElem?_eq_some_iff.1 hj).1;omega
      refine⟨news[j -k*1],?_,?_⟩
      ·rw[Array.append_assoc,Array.getElem?_append_right (by simp[hol];omega),Array.getElem?_append_left (by simp[hol];omega)]
       simp only[List.size_toArray,hol,List.getElem?_toArray]
       exact List.getElem?_eq_getElem hlt
      ·exact(az.drew G1 w).vr h1.aJ (oI.ki _ x _ hj (List.getElem?_eq_getElem hlt))) (0,0) ⟨fun k _ hk=>by simp at hk,Nat.le_refl _⟩ (.inl rfl) (fun i y hi hy=>by
     rw[Array.append_assoc,<-Array.append_assoc,Array.getElem?_append_right (by simp only[Array.size_append,List.size_toArray,hol,c6.len,<-Nat.add_mul];exact hi)]at hy
     exact uD hz1 _ _ (List.mem_of_getElem? (by rw[Array.getElem?_toList];exact hy)))
  intro pos after gd next Q hn
  refine aI ?_ (hn G2 _ _ _ h3 (hp1.trans ((az.drew G1 w).trans h4)) hk)
  simp[execOp,resolve,invoke,builtin,e1,bk]
 rcases VR.fD (VR.Px hv1)with⟨e0,rfl,rfl⟩|⟨b,off,cap,e1,hcl,hRb,fQ,hat⟩
 ·
  have e1:=e0.own
  by_cases hm:m=0
  ·subst hm
   have hds:ds=[]:=List.eq_nil_of_length_eq_zero (by simpa using c6.nW)
   subst hds
   have bk:=mb (ty:=ty) ht ht2 hi oG oI
   have oH:Inv G1 n D ((E.drain x).put d (.bb e 0 [])) (a.put d (.slice none 0 0)) w:=by
    have:=h1.put (s':=(E.drain x).s) (lp':=(E.drain x).lp) d (fun i hi=>by subst hi;simpa[aS]using hd) (.bb e 0 []) (.slice none 0 0) h1.aJ (az.refl G1 w) h1.store (fun _ hx=>hx) (fun i t _ ht=>ht.elim) (fun i t _⟨cs,hcs⟩=>by cases hcs)
     (fun _ _ _ _=>⟨rfl,rfl,rfl⟩) (fun _ _ _ _ _ _ hcc=>⟨hcc,rfl,rfl⟩) (fun i hdi=>⟨.bb _ _ _ _ (.slnil _ _) (fun _=>rfl),fun base m' dL hv hc=>by injection hv with _ e2 e3;omega⟩)
    cases d<;>exact this
   intro pos after gd next Q hn
   refine aI (w':=w) ?_ (hn G1 _ _ _ oH hp1 hk)
   simp[execOp,resolve,invoke,builtin,e1,bk]
  ·exact grow none 0 [] e1 (by omega) (by simp) (by simp) Fl.nil (by simp[Builtin.firstCells]) (fun j c u hc=>by simp at hc)
 ·by_cases cF:k+m<=cap
  ·by_cases hm:m=0
   ·subst hm
    have hds:ds=[]:=List.eq_nil_of_length_eq_zero (by simpa using c6.nW)
    have rm:news=[]:=List.eq_nil_of_length_eq_zero (by simpa using c6.len)
    subst hds;subst rm
    have bk:=gx (ty:=ty) (w:=w) ht ht2 hi oG oI (b:=b) (off:=off) (k:=k) (cap:=cap) cF (w':=w) rfl
    simp only[List.append_nil,Nat.add_zero]at hk bk
    have oH:Inv G1 n D ((E.drain x).put d (.bb e k cs)) (a.put d (a.eval u)) w:=by
     have:=h1.put (s':=(E.drain x).s) (lp':=(E.drain x).lp) d (fun i hi=>by subst hi;simpa[aS]using hd) (.bb e k cs) (a.eval u) h1.aJ (az.refl G1 w) h1.store (fun _ hx=>hx) (fun i t _ ht=>ht.elim) (fun i t _⟨cs,hcs⟩=>by cases hcs)
      (fun _ _ _ _=>⟨rfl,rfl,rfl⟩) (fun _ _ _ _ _ _ hcc=>⟨hcc,rfl,rfl⟩) (fun i hdi=>by subst hdi;exact⟨hv1,kW⟩)
     cases d<;>exact this
    intro pos after gd next Q hn
    refine aI (w':=w) ?_ (hn G1 _ _ _ oH hp1 hk)
    simp[execOp,resolve,invoke,builtin,e1,bk]
   ·obtain⟨b',Wt,c,fz,q1,q2,q3,q4,q5,q6⟩:=kW _ _ _ e1 (by omega)
    injection q1 with q1;injection q1 with q1 q1'
    subst q1;subst q1'
    have hon:G1.O b≠.none/\G1.O b≠.frame/\G1.O b≠.sh/\(∀i,G1.O b≠.loc i)/\(∀i j,G1.O b≠.cell i j)/\(∀i j,G1.O b=.slot i j->d=some i/\j=0):=by
     rw[q2]
     cases d with
     |none=>simp[An]
     |some i=>simp+contextual [An]
    obtain⟨G2,h3,h4⟩:=h1.Vm (k:=k) (m:=m) hd q4 ⟨q6.1,q6.2.1⟩ q6.2.2.1 (q6.2.2.2.1.imp id fun⟨z1,z2⟩=>⟨z1,gQ,z2⟩) q6.2.2.2.2 (fun i hi=>by subst hi;exact q2) hon q3 q5 cF (by omega) hcl hat oI rfl
    have IP:off+k*1+news.length<=c.size:=by
     rw[c6.len,q5,Nat.add_assoc,<-Nat.add_mul]
     exact Nat.add_le_add_left (Nat.mul_le_mul_right _ cF) _
    have cj:=cW (P:=P) b (off+k*1) e fz news 0 c w q4 q6.1 (by simpa using IP) c6.one
    have bk:=gx (ty:=ty) (w:=w) ht ht2 hi oG oI (b:=b) (off:=off) (k:=k) (cap:=cap) cF (w':=w.setRow b (laid c (off+k*1) news)) (by simpa[laid]using cj)
    intro pos after gd next Q hn
    refine aI ?_ (hn G2 _ _ _ h3 (hp1.trans h4) hk)
    simp[execOp,resolve,invoke,builtin,e1,bk]
  ·have hfl:Fl cs:=by obtain⟨_,_,_,hf⟩:=hat;exact hf
   obtain⟨us,u1,u2,u3⟩:=hat.ki
   exact grow _ cap us e1 (by omega) (by rw[u1,hcl]) hcl hfl (run_firstCells_some w.drew 1 k ⟨b,off,none⟩ k cap us (by rw[u1,hcl]) u2) u3
end
section
variable{P:Program}{G G':Gh}{n:Nat}{D:List Deferred}{E:St}{a:Act}{w w':World}
theorem aO.shape{s:ab}(h:aO G w s){b:Nat}{cs:List AV}(hs:s b=some (.cells cs)):∃t,w.shape? b=some (t,cs.length)/\xH t cs:=by
 obtain⟨_,_,c,t,h4,h5,h6⟩:=h b _ hs
 exact⟨t,by simp[World.shape?,h4,h5.1],h6⟩
theorem XR.ref(h:Inv G n D E a w){y:Operand}{x:IX}(hy:bp y x=true){b off:Nat}(hx:E.x x=.ref b off):a.eval y=.pointer (some ⟨b,off,none⟩):=by
 have:=XR.aG h hy
 rw[hx]at this
 exact VR.fu this
theorem OP(h:Inv G n D E a w){op:Op}{ty:TypeId}{m t0 j0 u0:Nat}{x:IX}{d:Option Nat}{K:St->Prop}(hd:aS n d=true)(hc:aq P op ty (.FR m t0 j0 u0 x)=true)(hw:gz P (.FR m t0 j0 u0 x) d E K):mr P G n D w a op ty d K:=by
 cases op<;>first|(simp[aq]at hc;done)|skip
 rename_i t y
 simp only[aq,Bool.and_eq_true,beq_iff_eq]at hc
 obtain⟨⟨rfl,_⟩,hc⟩:=hc
 obtain⟨hi,_,hj0,hj1,hk⟩:=hw
 have hvr:VR w G.R (E.x x) (a.eval y):=by
  have:=XR.aG h hc
  generalize E.x x=av at hi this
  cases av<;>first|exact this|(simp[cO]at hi)
 have gJ:=gh hi hvr
 have hj:j0+1<(cellsOf (E.x x)).length:=(List.getElem?_eq_some_iff.1 hj1).1
 have hcs:∀(G':Gh)(w':World)(o:Nat->cD),az G w G' w'->cP G' w' o (setAt (views (cellsOf (E.x x))) j0 [.lW t0,.bb u0 0 []]) (a.eval y).cells:=by
  intro G' w' o hp
  have hlen:j0+[AV.lW t0,AV.bb u0 0 []].length<=(views (cellsOf (E.x x))).length:=by simp[views];omega
  refine⟨by rw[mq _ _ _ hlen];simp only[List.length_map,views];exact gJ.1,fun j c u hcj hu=>?_⟩
  rw[mo _ _ _ _ hlen]at hcj
  by_cases h1:j=j0
  ·subst h1
   rw[if_pos ⟨Nat.le_refl _,by simp⟩,Nat.sub_self]at hcj
   injection hcj with hcj;subst hcj
   have hu':=gJ.2.1 j .cZ u hj0 hu
   obtain rfl:u=.pointer none:=VR.rp hu'
   exact⟨.lW t0,trivial⟩
  ·by_cases h2:j=j0+1
   ·subst h2
    rw[if_pos ⟨by omega,by simp⟩,show j0+1 -j0=1 by omega]at hcj
    injection hcj with hcj;subst hcj
    have hu':=gJ.2.1 _ _ u hj1 hu
    have e:u=.slice none 0 0:=by cases hu' with|bb _ _ _ _ h h0=>exact h0 rfl
    subst e
    exact⟨.bb _ _ _ _ (.slnil _ _) (fun _=>rfl),fun base m' dL hv hc=>by injection hv with _ e2 e3;omega⟩
   ·rw[if_neg (by simp;omega),dH]at hcj
    cases hz:(cellsOf (E.x x))[j]? with
    |none=>rw[hz]at hcj;cases hcj
    |some c0=>
     rw[hz]at hcj;simp at hcj
     have h1:=hp.vr h.aJ (gJ.2.1 j c0 u hz hu)
     rw[<-hcj]
     exact⟨h1.view,cQ.view ..⟩
 have hfl:xH t0 (setAt (views (cellsOf (E.x x))) j0 [.lW t0,.bb u0 0 []]):=by
  intro c hc'
  unfold setAt at hc'
  simp only[List.mem_append]at hc'
  have base:=gJ.2.2.views
  rcases hc' with(hc'|hc')|hc'
  ·exact .inl (base c (List.mem_of_mem_take hc'))
  ·simp only[List.mem_cons,List.not_mem_nil,or_false]at hc'
   rcases hc' with rfl|rfl
   ·exact .inr rfl
   ·exact .inl rfl
  ·exact .inl (base c (List.mem_of_mem_drop hc'))
 intro pos after g next Q hn
 obtain⟨G',h1,h2⟩:=h.Ub hd (t:=t0) (.inl ⟨rfl,rfl⟩) hcs hfl
 refine aI ?_ (hn G' _ _ _ h1 h2 (hk w.heap.size (h.store.get_none h.aJ)))
 simp[execOp,Instr.box,newVar,newRow]
end
end Go.AB
end
