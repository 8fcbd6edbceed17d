/- A part. -/
import Derived.Test.YtplacgnfinmfbaaGreatDoorFs5
import Derived.Lib.Builder
import Derived.Tactics
import Derived.Scope
set_option linter.unusedSimpArgs false
set_option linter.unusedVariables false
section
namespace Go.AB
open Go
section
variable{P:Program}{G G':Gh}{n:Nat}{D:List Deferred}{E:St}{a:Act}{w w':World}
theorem L2(h:Inv G n D E a w){op:Op}{ty:TypeId}{z:List AV}{x:IX}{d:Option Nat}{K:St->Prop}(hd:bC n d=true)(hc:aA P op ty (.qU z x)=true)(hw:jl P (.qU z x) d E K):qI P G n D w a op ty d K:=by
 cases op<;>first|(simp[aA]at hc;done)|skip
 rename_i c
 simp only[aA]at hc
 split at hc<;>try(cases hc;done)
 rename_i u us t ts hb
 have hce:=qR hb
 subst hce
 simp only[Bool.and_eq_true]at hc
 obtain⟨hu,hc⟩:=hc
 split at hc<;>try(cases hc;done)
 rename_i e ht
 have ht:=c3 ht
 have hw':yg z E d K (E.x x):=hw
 have hbx:=XR.aV h hu
 generalize E.x x=xv at hw' hbx
 unfold yg at hw'
 split at hw'<;>try(exact hw'.elim)
 rename_i b off k cap
 obtain⟨v,hv1,_,hv2⟩:=uM hc
 obtain⟨z1,z2,z3',z4,z5⟩:=hv2 k
 have z3:∀(j:Nat)(x:AV)(y:Value),(List.replicate k z).flatten[j]? =some x->(Builtin.zeroCells v.cells k).toList[j]? =some y->VR w G.R x y:=fun j x y hx hy=>yd (z3' j x y hx hy) w G.R
 rcases hw' with⟨hk0,hk⟩|⟨cf,hvw,hk⟩
 ·subst hk0
  intro pos after gd next Q hn
  refine aZ (w':=w) (v:=.tuple #[]) ?_ (hn G _ _ _ (h.aaM hd) (aK.refl G w) hk)
  rcases VR.df hbx with e1|⟨_,rfl,e1⟩<;>simp[execOp,resolve,invoke,builtin,e1,Builtin.clear_,run_underlying ht]
 ·obtain⟨cs,hsb,dt⟩:=GW cf
  rw[hsb]at hk
  have hk':K ({E with s:=E.s.set b (.cells (setAt cs off (List.replicate k z).flatten))}.put d (.iP [])):=hk
  obtain⟨_,_,c,et,hcb,hcr,hcf⟩:=h.store b _ hsb
  by_cases hk0:k=0
  ·subst hk0
   simp only[List.replicate_zero,List.flatten_nil,G6,uy hsb]at hk'
   intro pos after gd next Q hn
   refine aZ (w':=w) (v:=.tuple #[]) ?_ (hn G _ _ _ (h.aaM hd) (aK.refl G w) hk')
   rcases VR.df hbx with e1|⟨_,rfl,e1⟩<;>simp[execOp,resolve,invoke,builtin,e1,Builtin.clear_,run_underlying ht]
  ·rcases VR.df hbx with e1|⟨h0,_,_⟩
   ·obtain⟨h2,hp2⟩:=h.D8 (off:=off) (ds:=(List.replicate k z).flatten) (news:=(Builtin.zeroCells v.cells k).toList) hsb hcb (by rw[z1,z2]) (by grind) z4
     (by grind [views,List.map_replicate]) z3
    have eM:=eo (P:=P) b off et (0,0) (Builtin.zeroCells v.cells k).toList 0 c w hcb (fun j _ hj=>by simp at hj) (by rw[z1,hcr.1];grind) z5
    have Rx:(storeCells ⟨b,off,none⟩ (Builtin.zeroCells v.cells k).toList).run P w=.ok () (w.setRow b (laid c off (Builtin.zeroCells v.cells k).toList)):=by simpa[laid]using eM
    intro pos after gd next Q hn
    refine aZ (v:=.tuple #[]) ?_ (hn G _ _ _ (h2.aaM hd) hp2 hk')
    have cH:(Builtin.clear_ (t::ts).toArray ty (Array.map a.eval (u::us).toArray)).run P w=.ok (.tuple #[]) (w.setRow b (laid c off (Builtin.zeroCells v.cells k).toList)):=by
     obtain⟨k',rfl⟩:∃k',k=k'+1:=⟨k -1,by omega⟩
     simp[Builtin.clear_,run_underlying ht,e1,hv1,Rx]
    simp[execOp,resolve,invoke,builtin]at cH⊢;simp[cH]
   grind
end
section
variable{P:Program}{G G':Gh}{n:Nat}{D:List Deferred}{E:St}{a:Act}{w w':World}
theorem Inv.frozen(h:Inv G n D E a w){d:Option Nat}(hd:bC n d=true){b off sz k cap:Nat}{cs:List AV}{own:Bool}(hs:E.s b=some (.cells cs))(dt:off+k*sz<=cs.length)(fL:k<=cap)(xj:own=true->off=0/\cs.length=off+cap*sz):
 ∃G',Inv G' n D ({E with s:=E.s.del b}.put d (.sl own sz k (views (AB.sub cs off (k*sz))))) (a.put d (.slice (some ⟨b,off,none⟩) k cap)) w/\aK G w G' w:=by
 obtain⟨q2,q3,c,t,q4,q5,q6⟩:=h.store b _ hs
 let ob:cZ:=if own=true then Bw d else .none
 let G':=G.xU b ob (off+k*sz)
 have cz:aK G w G' w:=⟨rfl,rfl,rfl,Nat.le_refl _,Nat.le_refl _,fun b' _=>by
  by_cases hb:b'=b
  ·grind
  ·simp[G',hb],fun _ _ _ _=>rfl,fun _ _ _=>rfl,fun b' _ hb'=>by
  have:b'≠b:=fun e=>by grind
  simp[G',this,hb'],fun b' _ hb'=>by
  have:b'≠b:=fun e=>by grind
  simp[G',this,hb']⟩
 have hlt:b<w.heap.size:=h.bj.lt (by rw[q2];simp)
 have jt:cE G' w:=⟨fun b' hb'=>by
  have:b'≠b:=by omega
  simp[G',this,h.bj.k7 b' hb'],fun b' hb'=>by
  have:b'≠b:=by omega
  simp[G',this,h.bj.mn b' hb']⟩
 have same:∀b',G.O b'≠.sh\/b'≠b->G'.O b'=G.O b'/\G'.R b'=G.R b'/\w.heap[b']? =w.heap[b']? :=fun b' hb'=>by
  have:b'≠b:=by
   rcases hb' with hb'|hb'
   ·grind
   ·exact hb'
  exact⟨by simp[G',this],by simp[G',this],rfl⟩
 have eM:bc G' w (E.s.del b):=by
  intro b' o hb'
  unfold ae.del at hb'
  split at hb'
  ·cases hb'
  ·rename_i hne
   obtain⟨r1,r2,r3⟩:=h.store b' o hb'
   refine⟨(same b' (.inr hne)).1.trans r1,(same b' (.inr hne)).2.1.trans r2,?_⟩
   cases o with
   |cells cs'=>
    obtain⟨c',t',r4,r5,r6⟩:=r3
    exact⟨c',t',r4,r5.mono (fun _ _ hv=>cz.vr h.bj hv) (fun b'' j vH=>by grind),r6⟩
   |map es=>
    obtain⟨sP,clock,r4,r5,r6⟩:=r3
    exact⟨sP,clock,r4,r5,fun j x y hx hy=>⟨cz.vr h.bj (r6 j x y hx hy).1,cz.vr h.bj (r6 j x y hx hy).2⟩⟩
 have hat:=h.store.at hs dt
 obtain⟨u,u1,u2,u3⟩:=hat
 have hlen:(views (AB.sub cs off (k*sz))).length=k*sz:=by simp only[views,List.length_map];exact jD dt
 have:=h.put (s':=E.s.del b) (lp':=E.lp) d (fun i hi=>by grind [bC]) (.sl own sz k (views (AB.sub cs off (k*sz)))) (.slice (some ⟨b,off,none⟩) k cap) jt cz eM (fun _ hx=>hx) (fun i t _ ht=>ht.elim) (fun i t _⟨cs',zO⟩=>by cases zO)
  (fun i b' _ hb'=>same b' (.inl (by grind)))
  (fun i b' c' j _ _ hc'=>by grind)
  (fun i hi=>by
    subst hi
    refine⟨.sl own sz k _ b off cap u u3 hlen (by rw[hlen];simp[G']) fL u1 (fun j x hj=>cz.vr h.bj (u2 j x hj)),?_⟩
    cases own with
    |false=>trivial
    |true=>
     intro base m' c6 hv _
     injection hv with e1 e2 e3
     subst e3
     exact⟨b,off,c,t,(0,0),e1.symm,by simp[G',ob,Bw],by simp[G'],q4,by rw[q5.1,(xj rfl).2],fun j _ hj=>by simp at hj,Nat.le_refl _,(xj rfl).1,.inl rfl,fun j y _ hy=>by
      have hlt:j<cs.length:=by rw[<-q5.1];exact(Array.getElem?_eq_some_iff.1 hy).1
      exact qx (q6 _ (List.getElem_mem hlt)) (q5.2 j _ y (List.getElem?_eq_getElem hlt) hy).1⟩)
 exact⟨G',by cases d<;>exact this,cz⟩
theorem Inv.Rb(h:Inv G n D E a w){sz:Nat}{own:Bool}{d:Option Nat}{K:St->Prop}(hd:bC n d=true){xv:AV}{v:Value}(hbx:dp xv=true->VR w G.R xv v)(hw':vG sz own E d K xv):∃(G':Gh)(E':St),Inv G' n D E' (a.put d v) w/\aK G w G' w/\K E':=by
 unfold vG at hw'
 split at hw'<;>try(exact hw'.elim)
 rename_i b off k cap
 replace hbx:=hbx rfl
 have empty:k=0->cap=0->off=0\/v=.slice none 0 0->Inv G n D (E.put d (.sl own sz 0 [])) (a.put d (v)) w:=by
  intro hk0 hc0 aia
  subst hk0;subst hc0
  have hvr:VR w G.R (.sl own sz 0 []) (v):=by
   rcases VR.df hbx with e1|⟨_,_,e1⟩
   ·rcases aia with rfl|e2
    ·rw[e1];exact .sl own sz 0 [] b 0 0 (fun _=>undef) Fl.nil (by simp) (by simp) (Nat.le_refl _) (fun j c hj=>by simp at hj) (fun j c hj=>by simp at hj)
    grind
   ·rw[e1];exact .slnil _ _
  have:=h.put (s':=E.s) (lp':=E.lp) d (fun i hi=>by grind [bC]) (.sl own sz 0 []) (v) h.bj (aK.refl G w) h.store (fun _ hx=>hx) (fun i t _ ht=>ht.elim) (fun i t _⟨cs,hcs⟩=>by cases hcs)
   (fun _ _ _ _=>⟨rfl,rfl,rfl⟩) (fun _ _ _ _ _ _ hcc=>⟨hcc,rfl,rfl⟩) (fun i hdi=>by
     refine⟨hvr,?_⟩
     cases own with
     |false=>trivial
     |true=>
      intro base m' c6 hv hc'
      rcases VR.df hbx with e1|⟨_,_,e1⟩<;>rw[e1]at hv<;>injection hv with _ e2 e3<;>omega)
  cases d<;>exact this
 rcases hw' with⟨rfl,rfl,rfl,hk⟩|⟨jg,fL,xj,hk⟩
 ·exact⟨G,_,empty rfl rfl (.inl rfl),aK.refl G w,hk⟩
 ·cases hca:jf k sz off (E.s b)with
  |none=>rw[hca]at hk;exact hk.elim
  |some q=>
   obtain⟨q1,q2⟩:=q
   rw[hca]at hk
   obtain⟨cs,e1,e2,rfl,rfl⟩:=qS hca
   have NS:own=true->off=0/\cs.length=off+cap*sz:=fun ho=>by
    have:=(xj ho).2.2
    rw[e1]at this
    exact⟨(xj ho).1,this⟩
   obtain⟨G',h1,h2⟩:=h.frozen hd (own:=own) e1 e2 fL NS
   have e3:=VR.yN hbx jg
   exact⟨G',_,by grind,h2,hk⟩
theorem UN(h:Inv G n D E a w){op:Op}{ty:TypeId}{sz:Nat}{own:Bool}{x:IX}{d:Option Nat}{K:St->Prop}(hd:bC n d=true)(hc:aA P op ty (.T7 sz own x)=true)(hw:jl P (.T7 sz own x) d E K):qI P G n D w a op ty d K:=by
 have key:∀y,bQ y x=true->∃(G':Gh)(E':St),Inv G' n D E' (a.put d (a.eval y)) w/\aK G w G' w/\K E':=by
  intro y hy
  have hbx:=XR.aV h hy
  have hw':vG sz own E d (fun τ=>K (Ra x d τ)) (E.x x):=hw
  have hne:∀i,x=.t i->look E.e i≠.undef:=fun i e e2=>by
   subst e
   have e3:E.x (.t i)=.undef:=e2
   rw[e3]at hw';exact hw'
  generalize E.x x=xv at hw' hbx
  obtain⟨G',E',h1,h2,hk⟩:=h.Rb hd (v:=a.eval y) (fun hi=>by cases xv<;>first|exact hbx|grind [dp]) hw'
  refine⟨G',_,?_,h2,hk⟩
  unfold Ra
  split
  ·rename_i i j
   split
   ·rename_i o z m cs he
    obtain rfl:=JC hy
    have hj:j<n:=h1.DC (by rw[he];simp)
    have hsz:a.tmps.size=n:=h.size
    have hlj:(a.put (some j) (a.eval (.tmp i))).tmps[j]? =some (a.eval (.tmp i)):=by simp[Act.put,hsz,hj]
    have hv:=(h1.cm j _ hlj)
    rw[he]at hv
    refine h1.K8 i (h.DC (hne i rfl)) _ (fun t ht=>ht) (fun cs' e=>by cases e) fun v hv'=>?_
    have hve:v=a.eval (.tmp i):=by
     by_cases hij:j=i
     ·grind
     ·simp only[Act.put,Array.getElem?_setIfInBounds_ne hij]at hv'
      show v=a.tmps.getD i undef
      simp_all
    rw[hve]
    exact⟨hv.1.view,trivial⟩
   ·exact h1
  ·exact h1
 intro pos after g next Q hn
 cases op<;>first|(simp[aA]at hc;done)|skip
 all_goals
  rename_i y
  obtain⟨G',E',h1,h2,hk⟩:=key y hc
  exact aZ rfl (hn G' _ _ _ h1 h2 hk)
theorem Pf(h:Inv G n D E a w){op:Op}{ty:TypeId}{sz:Nat}{own:Bool}{x:IX}{d:Option Nat}{K:St->Prop}(hd:bC n d=true)(hc:aA P op ty (.zd sz own x)=true)(hw:jl P (.zd sz own x) d E K):qI P G n D w a op ty d K:=by
 cases op<;>first|(simp[aA]at hc;done)|skip
 rename_i t y
 simp only[aA,Bool.and_eq_true]at hc
 obtain⟨⟨hs,hm⟩,hy⟩:=hc
 have hb:=BR.aV h hy
 have hw':Il sz own E d K (rd E (xg true E x) 1):=hw
 cases hr:rd E (xg true E x) 1 with
 |none=>rw[hr]at hw';exact hw'.elim
 |some cs=>
  rw[hr]at hw'
  obtain⟨b,off,e,hl,hat,hvw⟩:=D2 h hb hr
  match cs,hl,hw' with
  |[c],hl,⟨hi,hw'⟩=>
   obtain⟨v,cH,hvr⟩:=px hs hm rfl hl hat
   obtain⟨G',E',h1,h2,hk⟩:=h.Rb hd (v:=v) (fun _=>hvr) hw'
   intro pos after g next Q hn
   exact aZ (w':=w) (by simp[execOp,e,Instr.loadAt,Instr.sureAddr,cH]) (hn G' _ _ _ h1 h2 hk)
theorem D6(h:Inv G n D E a w)(bl off:Nat)(T:cZ)(hT:T≠.sh/\(∀i,T≠.loc i)/\(∀i j,T≠.cell i j)):
 cE (G.gp (.cell bl off) T) w/\aK G w (G.gp (.cell bl off) T) w/\(∀b,G.O b≠.cell bl off->(G.gp (.cell bl off) T).O b=G.O b):=by
 have hne:∀b,G.O b≠.cell bl off->(G.gp (.cell bl off) T).O b=G.O b:=fun b hb=>by simp[hb]
 exact⟨⟨fun b hb=>by rw[hne b (by rw[h.bj.k7 b hb];simp),h.bj.k7 b hb],h.bj.mn⟩,
  ⟨rfl,rfl,rfl,Nat.le_refl _,Nat.le_refl _,fun _ _=>Nat.le_refl _,fun _ _ _ _=>rfl,fun _ _ _=>rfl,fun b _ hb=>⟨by grind,rfl⟩,fun b _ hb=>⟨by grind,rfl⟩⟩,hne⟩
theorem dy.gp{o T:cZ}{av:AV}{v:Value}(h:dy G w o av v):dy (G.gp o T) w T av v:=by
 unfold dy at h⊢
 split
 ·rename_i sz m cs
  intro base m' cap hv hc
  obtain⟨b,off,c,e,fz,q1,q2,q3⟩:=h base m' cap hv hc
  exact⟨b,off,c,e,fz,q1,by simp[q2],q3⟩
 ·rename_i e m cs
  intro base m' cap hv hc
  obtain⟨b,off,c,fz,q1,q2,q3⟩:=h base m' cap hv hc
  exact⟨b,off,c,fz,q1,by simp[q2],q3⟩
 ·trivial
def E3:AV->Bool
 |.sl _ _ _ _=>true
 |.bb _ _ _=>true
 |_=>false
theorem Gv{av:AV}(h:E3 av=true):pQ (view av)=true:=by cases av<;>first|rfl|(cases h;done)
theorem dq.take{bl off:Nat}{T:cZ}{cs:List AV}{c:Array Value}{av:AV}(h:dq G w (.cell bl) cs c)(hcs:cs[off]? =some av):
 dq (G.gp (.cell bl off) T) w (.cell bl) (setAt cs off [view av]) c:=by
 have hlt:off+1<=cs.length:=(List.getElem?_eq_some_iff.1 hcs).1
 refine⟨by rw[vi _ _ _ (by grind)];exact h.1,fun j x y hx hy=>?_⟩
 rw[vh _ _ _ _ (by grind)]at hx
 by_cases hj:j=off
 ·subst hj
  rw[if_pos ⟨Nat.le_refl _,by simp⟩,Nat.sub_self]at hx
  injection hx with hx;subst hx
  exact⟨(h.2 j _ y hcs hy).1.view,dy.view ..⟩
 ·rw[if_neg (by simp;omega)]at hx
  obtain⟨h1,h2⟩:=h.2 j x y hx hy
  refine⟨h1,h2.mono fun b hb=>⟨?_,rfl,rfl⟩⟩
  simp_all
def loadT:Option Nat->cZ
 |some i=>.slot i 0
 |none=>.frame
theorem F6(h:Inv G n D E a w){op:Op}{ty:TypeId}{x:IX}{d:Option Nat}{K:St->Prop}(hd:bC n d=true)(hc:aA P op ty (.mh x)=true)(hw:jl P (.mh x) d E K):qI P G n D w a op ty d K:=by
 cases op<;>first|(simp[aA]at hc;done)|skip
 rename_i t y
 simp only[aA,Bool.and_eq_true]at hc
 obtain⟨⟨⟨_,hs⟩,hm⟩,hy⟩:=hc
 have hbx:=XR.aV h hy
 have hw':pw E d K (E.x x):=hw
 have hT:loadT d≠.sh/\(∀i,loadT d≠.loc i)/\(∀i j,loadT d≠.cell i j):=by cases d<;>simp[loadT]
 have cH:∀(b off:Nat)(u:Value),a.eval y=.pointer (some ⟨b,off,none⟩)->w.cell? ⟨b,off,none⟩=some u->∀(pos:String)(after:Array Edge)(g:Option (Nat×Bool)),(execOp a.eval ⟨d,.load t y,ty,pos,after,g⟩).run P w=.ok (.value u) w:=by
  intro b off u e1 e2 pos after g
  have:(loadVar t ⟨b,off,none⟩).run P w=.ok u w:=by simp[loadVar,Ay hm,e2]
  simp[execOp,e1,Instr.loadAt,Instr.sureAddr,this]
 have afe:∀{G1:Gh}{σ1:St}{av:AV}{u:Value},E3 av=true->Inv G1 n D σ1 a w->VR w G1.R av u->dy G1 w (loadT d) av u->Inv G1 n D (σ1.put d av) (a.put d u) w:=by
  intro G1 σ1 av u hsl h1 hv ho
  have hiv:dp av=true:=by cases av<;>first|rfl|(cases hsl;done)
  have:=h1.put (s':=σ1.s) (lp':=σ1.lp) d (fun i hi=>by grind [bC]) av u h1.bj (aK.refl G1 w) h1.store (fun _ hx=>hx) (fun i t _ ht=>(eR hiv t ht).elim) (fun i t _⟨cs,hcs⟩=>(ni hiv cs hcs).elim)
   (fun _ _ _ _=>⟨rfl,rfl,rfl⟩) (fun _ _ _ _ _ _ hcc=>⟨hcc,rfl,rfl⟩) (fun i hdi=>by subst hdi;rw[dc.pz hiv];exact⟨hv,ho⟩)
  cases d<;>exact this
 have TF:∀{off:Nat}{cs:List AV}{k:List AV->AV->Prop},j9 off cs k->∃av,E3 av=true/\cs[off]? =some av/\k (setAt cs off [view av]) av:=by
  intro off cs k hk
  unfold j9 at hk
  split at hk
  ·rename_i ow sz m ds he;exact⟨_,rfl,he,hk⟩
  ·rename_i t m ds he;exact⟨_,rfl,he,hk⟩
  ·exact hk.elim
 have TG:∀{off:Nat}{cs:List AV}{k:List AV->AV->Prop},Ep off cs k->∃av,E3 av=true/\cs[off]? =some av/\k (setAt cs off [view av]) av:=by
  intro off cs k hk
  unfold Ep at hk
  split at hk
  ·rename_i ow sz m ds he;exact⟨_,rfl,he,hk⟩
  ·exact hk.elim
 generalize E.x x=xv at hw' hbx
 unfold pw at hw'
 split at hw'<;>try(exact hw'.elim)
 ·rename_i b off
  have e1:=VR.fZ hbx
  cases hsb:E.s b with
  |none=>grind
  |some so=>
   cases so with
   |map es=>grind
   |cells cs=>
   rw[hsb]at hw'
   obtain⟨av,hsl,hcs,hk⟩:=TF hw'
   obtain⟨q2,q3,c,et,q4,q5,q6⟩:=h.store b _ hsb
   have hlt:off<cs.length:=(List.getElem?_eq_some_iff.1 hcs).1
   have Zx:off<c.size:=by rw[q5.1];exact hlt
   have fB:=Array.getElem?_eq_getElem Zx
   obtain⟨hv,ho⟩:=q5.2 off _ _ hcs fB
   obtain⟨g1,g2,hne⟩:=D6 h b off (loadT d) hT
   have eM:bc (G.gp (.cell b off) (loadT d)) w (E.s.set b (.cells (setAt cs off [view av]))):=by
    intro b' o hb'
    unfold ae.set at hb'
    by_cases hbg:b'=b
    ·rw[if_pos hbg]at hb';injection hb' with hb';subst hb';subst hbg
     exact⟨by grind,q3,c,et,q4,q5.take hcs,AK.setAt q6 (by intro z hz;grind [List.mem_singleton,Gv]) off⟩
    ·rw[if_neg hbg]at hb'
     obtain⟨r1,r2,r3⟩:=h.store b' o hb'
     refine⟨by grind,r2,?_⟩
     cases o with
     |cells cs'=>
      obtain⟨c0,t0,r4,r5,r6⟩:=r3
      exact⟨c0,t0,r4,r5.mono (fun _ _ hv=>hv) (fun b'' j vH=>⟨by grind,rfl,rfl⟩),r6⟩
     |map es=>exact r3
   have h1:Inv (G.gp (.cell b off) (loadT d)) n D {E with s:=E.s.set b (.cells (setAt cs off [view av]))} a w:=
    ⟨g1,eM,h.size,fun k v hkv=>dc.frame (G:=G) (G':=G.gp (.cell b off) (loadT d)) (w:=w) (w':=w) (tmps:=a.tmps) (OI:=a.tmps) (fun _ _ hv=>hv) (fun b' hb'=>⟨hne b' (by grind),rfl,rfl⟩)
      (fun b' c' j hb' hc'=>⟨by grind,rfl,rfl⟩) _ _ (fun d _ cs hcs=>⟨cs,hcs,rfl⟩) (h.cm k v hkv),h.EI,h.LA,h.pO⟩
   intro pos after g next Q hn
   exact aZ (cH b off _ e1 (by grind [cell_of_row]) pos after g) (hn _ _ _ _ (afe hsl h1 hv ho.gp) g2 hk)
 ·rename_i i off
  cases hl:look E.e i<;>rw[hl]at hw'<;>first|exact hw'.elim|skip
  rename_i cs
  obtain⟨hdi,hw'⟩:=hw'
  obtain⟨av,hsl,hcs,hk⟩:=TG hw'
  obtain⟨b,e1,e2⟩:=hbx
  have htm:=e2 cs hl
  have Kc:=h.cm i _ htm
  rw[hl]at Kc
  obtain⟨b',c,et,p1,p2,p3,p4,p5,p6⟩:=Kc
  injection p1 with p1;injection p1 with p1;injection p1 with p1 _ _
  subst p1
  have hlt:off<cs.length:=(List.getElem?_eq_some_iff.1 hcs).1
  have Zx:off<c.size:=by rw[p5.1];exact hlt
  have fB:=Array.getElem?_eq_getElem Zx
  obtain⟨hv,ho⟩:=p5.2 off _ _ hcs fB
  obtain⟨g1,g2,hne⟩:=D6 h b off (loadT d) hT
  have eM:bc (G.gp (.cell b off) (loadT d)) w E.s:=h.store.mono h.bj g2 (fun b' hb'=>⟨by grind,rfl,rfl⟩)
   (fun b' c' j hb' hc'=>⟨by grind,rfl,rfl⟩)
  have h1:Inv (G.gp (.cell b off) (loadT d)) n D (E.put (some i) (.loc (setAt cs off [view av]))) a w:=by
   refine⟨g1,eM,h.size,fun k v hkv=>?_,fun k hk'=>?_,fun k d' hk'=>?_,h.pO⟩
   ·by_cases hki:i=k
    ·subst hki
     have:look (E.put (some i) (.loc (setAt cs off [view av]))).e i=.loc (setAt cs off [view av]):=by simp[St.put,aX]
     rw[this]
     rw[htm]at hkv;injection hkv with hkv;subst hkv
     exact⟨b,c,et,rfl,by grind,p3,p4,p5.take hcs,Fl.setAt p6 (by intro z hz;grind [List.mem_singleton,Gv]) off⟩
    ·have:look (E.put (some i) (.loc (setAt cs off [view av]))).e k=look E.e k:=by simp[St.put,aX,hki]
     rw[this]
     refine dc.frame (G:=G) (G':=G.gp (.cell b off) (loadT d)) (w:=w) (w':=w) (tmps:=a.tmps) (OI:=a.tmps) (fun _ _ hv=>hv) (fun b' hb'=>⟨hne b' (by grind),rfl,rfl⟩)
      (fun b' c' j hb' hc'=>⟨by grind,rfl,rfl⟩) _ _ (fun d' _ cs' zO=>?_) (h.cm k v hkv)
     by_cases hdi':i=d'
     ·grind
     ·simp only[St.put,aX,hdi',if_false]at zO
      grind
   ·by_cases hki:i=k
    ·subst hki
     have:=h.EI i hk'
     grind
    ·simp only[St.put,aX,hki,if_false];exact h.EI k hk'
   ·by_cases hki:i=k
    ·subst hki
     simp only[St.put,aX,if_true]at hk'
     exact hk'.elim
    ·simp only[St.put,aX,hki,if_false]at hk'
     exact h.LA k d' hk'
  intro pos after g next Q hn
  exact aZ (cH b off _ e1 (by grind [cell_of_row]) pos after g) (hn _ _ _ _ (afe hsl h1 hv ho.gp) g2 hk)
theorem Pe(h:Inv G n D E a w){op:Op}{ty:TypeId}{off:Nat}{j x:IX}{d:Option Nat}{K:St->Prop}(hd:bC n d=true)(hc:aA P op ty (.mW off j x)=true)(hw:jl P (.mW off j x) d E K):qI P G n D w a op ty d K:=by
 have hc':aA P op ty (.mh x)=true:=by cases op<;>first|exact hc|(cases hc;done)
 exact F6 h hd hc' hw.2
theorem UM(h:Inv G n D E a w){op:Op}{ty:TypeId}{ne:Bool}{x:IX}{d:Option Nat}{K:St->Prop}(hd:bC n d=true)(hc:aA P op ty (.UR ne x)=true)(hw:jl P (.UR ne x) d E K):qI P G n D w a op ty d K:=by
 cases op<;>first|(simp[aA]at hc;done)|skip
 rename_i b t u v yt
 simp only[aA,Bool.and_eq_true,decide_eq_true_eq]at hc
 obtain⟨⟨⟨rfl,hx⟩,hy⟩,ht⟩:=hc
 cases hel:cI P t with
 |none=>grind
 |some e=>
 have ht:=c3 hel
 have e2:a.eval v=.slice none 0 0:=by
  split at hy
  ·rfl
  ·cases hy
 have hbx:=XR.aV h hx
 have hw':Ph ne E d K (E.x x):=hw
 generalize E.x x=xv at hw' hbx
 have some_:∀(ad:Addr)(l c:Nat),a.eval u=.slice (some ad) l c->K (E.put d (.bool ne))->qI P G n D w a (.binOp (if ne=true then .neq else .eql) t u v yt) ty d K:=by
  intro ad l c e1 hk pos after g next Q hn
  have hr:(Op.equal t (.slice (some ad) l c) (.slice none 0 0)).run P w=.ok false w:=oR 9999 ht ad l c
  refine aZ (v:=.bool ne) ?_ (hn G _ _ _ (h.SJ hd rfl (.bool _) rfl) (aK.refl G w) hk)
  cases ne<;>simp[execOp,e1,e2,eqGuard,binOp,hr]
 have none_:a.eval u=.slice none 0 0->K (E.put d (.bool !ne))->qI P G n D w a (.binOp (if ne=true then .neq else .eql) t u v yt) ty d K:=by
  intro e1 hk pos after g next Q hn
  have key:∀q:Nat,(Op.equalIn (q+1) t (.slice none 0 0) (.slice none 0 0)).run P w=.ok true w:=fun q=>by simp[Op.equalIn,run_underlying ht]
  have hr:(Op.equal t (.slice none 0 0) (.slice none 0 0)).run P w=.ok true w:=key 9999
  refine aZ (v:=.bool !ne) ?_ (hn G _ _ _ (h.SJ hd rfl (.bool _) rfl) (aK.refl G w) hk)
  cases ne<;>simp[execOp,e1,e2,eqGuard,binOp,hr]
 unfold Ph at hw'
 split at hw'<;>try(exact hw'.elim)
 ·rename_i ow sz m cs
  rcases VR.ik hbx with⟨(e1|⟨_,_,_,e1⟩),rfl,_⟩|⟨b,off,cap,e1,_⟩
  ·grind
  ·grind
  grind
 ·rename_i b off m cap
  rcases VR.df hbx with e1|⟨_,rfl,e1⟩
  ·grind
  grind
theorem FQ(a b:List AV):views (a++b)=views a++views b:=by simp[views]
theorem Pb(h:Inv G n D E a w){op:Op}{ty:TypeId}{f i:Nat}{args:List IX}{d:Option Nat}{K:St->Prop}(hd:bC n d=true)(hc:aA P op ty (.ye f i args)=true)(hw:jl P (.ye f i args) d E K):qI P G n D w a op ty d K:=by
 have hcc:aA P op ty (.call f args)=true:=by
  cases op<;>first|(simp[aA]at hc;done)|skip
  simp only[aA,Bool.and_eq_true]at hc
  exact hc.2
 have hw':TI i E (fun τ=>sJ P f τ d K (cq (xg true τ) args)) (look E.e i):=hw
 have later:∀(G1:Gh)(τ:St),Inv G1 n D τ a w->aK G w G1 w->sJ P f τ d K (cq (xg true τ) args)->qI P G n D w a op ty d K:=by
  intro G1 τ h1 hp hk pos after g next Q hn
  exact JW h1 hd hcc hk pos after g next Q fun G' E' a' w' k1 k2 k3=>hn G' E' a' w' k1 (hp.trans k2) k3
 cases hl:look E.e i<;>rw[hl]at hw'<;>first|exact hw'.elim|skip
 rename_i sz m cs
 obtain⟨hw1,hw2⟩:=hw'
 have hin:i<n:=h.DC (by rw[hl];simp)
 have hlt:i<a.tmps.size:=by rw[h.size];exact hin
 have hs:=h.cm i _ (Array.getElem?_eq_getElem hlt)
 rw[hl]at hs
 rcases hs with⟨h1,h2,h3⟩|⟨b,cap,c,t,sp,h1,h2,h3,h4,h5,h6,h7,h8,h9,h10,h11,h12⟩
 ·subst h1;subst h2
  rcases h3 with h3|⟨b,off,h3⟩
  ·refine later G _ (h.K8 i hin (.arr 0 0 0 0) (fun t ht=>ht) (fun cs e=>by cases e) fun v hv=>?_) (aK.refl G w) (hw2 rfl 0 0)
   rw[Array.getElem?_eq_getElem hlt]at hv;injection hv with hv;subst hv
   exact⟨by rw[h3];exact .Hn _ _,trivial⟩
  ·refine later G _ (h.K8 i hin (.arr b off 0 0) (fun t ht=>ht) (fun cs e=>by cases e) fun v hv=>?_) (aK.refl G w) (hw2 rfl b off)
   rw[Array.getElem?_eq_getElem hlt]at hv;injection hv with hv;subst hv
   exact⟨by rw[h3];exact .arr _ _ _ _,trivial⟩
 ·have ajq:E.s b=none:=by
   cases hsb:E.s b with
   |none=>rfl
   |some o=>have:=(h.store b o hsb).1;grind
  have aj5:views sp=sp:=by
   have:views cs++views sp=cs++sp:=by rw[<-FQ];exact h12
   exact(List.append_inj this (by simp[views])).2
  let G1:Gh:=G.xU b .sh 0
  have same:∀b',b'≠b->G1.O b'=G.O b'/\G1.R b'=G.R b'/\w.heap[b']? =w.heap[b']? :=fun b' hb'=>⟨by simp[G1,hb'],by simp[G1,hb'],rfl⟩
  have hRe:∀b',G1.R b'=G.R b':=fun b'=>by
   by_cases hb:b'=b
   ·subst hb;simp[G1,h5]
   grind
  have cz:aK G w G1 w:=⟨rfl,rfl,rfl,Nat.le_refl _,Nat.le_refl _,fun b' _=>by grind,fun _ _ _ _=>rfl,fun _ _ _=>rfl,fun b' _ hb'=>by
   grind,fun b' _ hb'=>by
   grind⟩
  have hbl:b<w.heap.size:=h.bj.lt (by rw[h4];simp)
  have jt:cE G1 w:=⟨fun b' hb'=>by
   have:b'≠b:=by omega
   rw[(same b' this).1,h.bj.k7 b' hb'],fun b' hb'=>by rw[hRe,h.bj.mn b' hb']⟩
  have eM:bc G1 w (E.s.set b (.cells (cs++sp))):=by
   intro b' o hb'
   unfold ae.set at hb'
   by_cases hbg:b'=b
   ·rw[if_pos hbg]at hb';injection hb' with hb';subst hb';subst hbg
    refine⟨by simp[G1],by simp[G1],c,t,h6,⟨by rw[h7,h9],fun j x y hx hy=>⟨cz.vr h.bj (h10 j x y hx hy),?_⟩⟩,h11.tag _⟩
    grind [eY,dy.view]
   ·rw[if_neg hbg]at hb'
    obtain⟨r1,r2,r3⟩:=h.store b' o hb'
    refine⟨(same b' hbg).1.trans r1,(same b' hbg).2.1.trans r2,?_⟩
    cases o with
    |cells cs'=>
     obtain⟨c0,t0,r4,r5,r6⟩:=r3
     exact⟨c0,t0,r4,r5.mono (fun _ _ hv=>cz.vr h.bj hv) (fun b'' j vH=>by grind),r6⟩
    |map es=>
     obtain⟨sP,clock,r4,r5,r6⟩:=r3
     exact⟨sP,clock,r4,r5,fun j x y hx hy=>⟨cz.vr h.bj (r6 j x y hx hy).1,cz.vr h.bj (r6 j x y hx hy).2⟩⟩
  have h1':Inv G1 n D ({E with s:=E.s.set b (.cells (cs++sp))}.put (some i) (.arr b 0 m cap)) a w:=by
   have ha:a.put (some i) a.tmps[i]=a:=by
    have:a.tmps.setIfInBounds i a.tmps[i]=a.tmps:=by rw[Array.setIfInBounds,dif_pos hlt,Array.set_getElem_self]
    simp[Act.put,this]
   have:=h.put (s':=E.s.set b (.cells (cs++sp))) (lp':=E.lp) (some i) (fun j hj=>by grind) (.arr b 0 m cap) a.tmps[i] jt cz eM (fun _ hx=>hx) (fun j t _ ht=>ht.elim) (fun j t _⟨cs,hcs⟩=>by cases hcs)
    (fun j b' hj hb'=>same b' (fun e=>by grind))
    (fun j b' c' q _ _ hc'=>by grind)
    (fun j hj=>by
      injection hj with hj;subst hj
      exact⟨by rw[h3];exact .arr _ _ _ _,trivial⟩)
   rw[ha]at this
   exact this
  grind
theorem VP{R:Nat->Nat}{sz:Nat}{c:AV}{u:Value}(h:VR w R c u):VR w R (Al sz c) u:=by
 unfold Al
 split
 ·rename_i b
  rcases VR.df h with e|⟨_,_,e⟩
  ·rw[e];exact .sl true sz 0 [] b 0 0 (fun _=>undef) Fl.nil (by simp) (by simp) (Nat.le_refl _) (fun j c hj=>by simp at hj) (fun j c hj=>by simp at hj)
  ·rw[e];exact .slnil _ _
 ·exact h
theorem Si{R:Nat->Nat}{o:cZ}{sz:Nat}{c:AV}{u:Value}(h:VR w R c u):dy G w o (Al sz (view c)) u:=by
 unfold Al
 split
 ·rename_i b hb
  have:c=.arr b 0 0 0:=by cases c<;>simp[view]at hb<;>simp[hb]
  subst this
  intro base m cap hv hc
  rcases VR.df h with e|⟨_,_,e⟩<;>rw[e]at hv<;>injection hv with _ e2 e3<;>omega
 ·exact dy.view ..
theorem PA{sz:Nat}{c:AV}(h:pQ c=true):pQ (Al sz c)=true:=by
 unfold Al
 split
 ·rfl
 ·exact h
theorem QW(h:Inv G n D E a w){op:Op}{ty:TypeId}{sz m:Nat}{x:IX}{d:Option Nat}{K:St->Prop}(hd:bC n d=true)(hc:aA P op ty (.Ho sz m x)=true)(hw:jl P (.Ho sz m x) d E K):qI P G n D w a op ty d K:=by
 cases op<;>first|(simp[aA]at hc;done)|skip
 rename_i t y
 simp only[aA,Bool.and_eq_true]at hc
 obtain⟨hi,_,hk⟩:=hw
 have hvr:VR w G.R (E.x x) (a.eval y):=by
  have:=XR.aV h hc.2
  generalize E.x x=av at hi this
  cases av<;>first|exact this|grind [dp]
 have eO:=gT hi hvr
 have hcs:∀(G':Gh)(w':World)(o:Nat->cZ),aK G w G' w'->dq G' w' o ((views (cellsOf (E.x x))).map (Al sz)) (a.eval y).cells:=by
  intro G' w' o hp
  refine⟨by simp only[List.length_map,views];exact eO.1,fun j c u hcj hu=>?_⟩
  simp only[List.getElem?_map]at hcj
  rw[eY]at hcj
  cases hz:(cellsOf (E.x x))[j]? with
  |none=>grind
  |some c0=>
   rw[hz]at hcj;simp at hcj
   have h1:=hp.vr h.bj (eO.2.1 j c0 u hz hu)
   rw[<-hcj]
   exact⟨VP h1.view,Si h1⟩
 have hfl:Fl ((views (cellsOf (E.x x))).map (Al sz)):=by
  intro c hc'
  simp only[List.mem_map]at hc'
  obtain⟨c',h1,rfl⟩:=hc'
  exact PA (eO.2.2.views c' h1)
 intro pos after g next Q hn
 obtain⟨G',h1,h2⟩:=h.MC hd (t:=t) (.inl ⟨rfl,rfl⟩) hcs hfl
 refine aZ ?_ (hn G' _ _ _ h1 h2 (hk w.heap.size (h.store.get_none h.bj)))
 simp[execOp,Instr.box,newVar,newRow]
end
section
variable{P:Program}{G G':Gh}{n:Nat}{D:List Deferred}{E:St}{a:Act}{w w':World}
theorem VR.Vn{R:Nat->Nat}{t:Nat}{cs:List AV}{v:Value}(h:VR w R (.bb t 0 cs) v):v=.slice none 0 0:=by cases h with|bb _ _ _ _ h h0=>exact h0 rfl
theorem VR.RF{R:Nat->Nat}{t n:Nat}{cs:List AV}{v:Value}(h:VR w R (.bb t n cs) v):VR w R (.sl true 1 n cs) v:=by cases h;assumption
theorem Inv.aeO(h:Inv G n D E a w){d:Option Nat}(hd:bC n d=true){m cap:Nat}{cs:List AV}{c:Array Value}{t:TypeId}{ob:cZ}(hm0:0<m)(hob:∀i,d=some i->ob=.slot i 0)(ah9:d=none->ob=.none)
 (hl:cs.length=m*1)(fL:m<=cap)(hsz:c.size=cap*1)(hfl:Fl cs)
 (hcs:∀(j:Nat)(x:AV),cs[j]? =some x->∃y,c[j]? =some y/\VR w G.R x y)(fz:Nat×Nat)(hfz:(∀k,k<c.size->¬(fz.1<=k/\k<fz.2))/\fz.1<=fz.2)(hz0:fz=(0,0)\/(0<m/\∃x,c[0]? =some (.int .u8 x)))(hsp:∀(k:Nat)(y:Value),m*1<=k->c[k]? =some y->y.oneCell'=true):
 ∃G',Inv G' n D (E.put d (.bb t m cs)) (a.put d (.slice (some ⟨w.heap.size,0,none⟩) m cap)) (w.alloc (.cells c t fz))/\aK G w G' (w.alloc (.cells c t fz)):=by
 have hp:=(fU h.bj (.cells c t fz) ob cs.length).2.1
 obtain⟨h1,h2⟩:=h.alloc (.cells c t fz) ob cs.length d hd (.bb t m cs) (.slice (some ⟨w.heap.size,0,none⟩) m cap) E.lp (lN h.store h.bj _ ob cs.length) (fun _ hx=>hx) (fun i t' _ ht=>ht.elim)
  (fun i t' _⟨cs',zO⟩=>by cases zO)
  (fun i hi=>by
    refine⟨?_,?_⟩
    ·refine .bb t m cs _ (.sl true 1 m cs w.heap.size 0 cap (fun j=>c.getD j undef) hfl hl (by simp) fL (fun j x hj=>?_) (fun j x hj=>?_)) (fun e=>by omega)
     ·obtain⟨y,hy,_⟩:=hcs j x hj
      rw[Nat.zero_add,cell_of_row _ (heap_alloc_new w _),hy]
      simp_all
     ·obtain⟨y,hy,hv⟩:=hcs j x hj
      have:c.getD j undef=y:=by simp[Array.getD_eq_getD_getElem?,hy]
      rw[this]
      exact hp.vr h.bj hv
    ·intro base m' c6 hv hc
     injection hv with e1 e2 e3
     subst e3
     exact⟨w.heap.size,0,c,fz,e1.symm,by simp_all,by simp[hl],heap_alloc_new w _,by grind,hfz.1,hfz.2,rfl,hz0,fun k y hk=>hsp k y (by omega)⟩)
 exact⟨_,by cases d<;>exact h1,h2⟩
theorem Inv.Zl(h:Inv G n D E a w){d:Option Nat}(hd:bC n d=true){b off k m cap:Nat}{c:Array Value}{t:TypeId}{fz:Nat×Nat}{cs ds:List AV}{v:Value}{news:List Value}{R:Nat->Nat}
 (hb:w.heap[b]? =some (.cells c t fz))(hfz:(∀j,j<c.size->¬(fz.1<=j/\j<fz.2))/\fz.1<=fz.2)(hof:off=0)(hz0:fz=(0,0)\/(0<k/\0<1/\∃x,c[0]? =some (.int .u8 x)))(hsp:∀(i:Nat)(y:Value),off+k*1<=i->c[i]? =some y->y.oneCell'=true)(ho:∀i,d=some i->G.O b=.slot i 0)(hon:G.O b≠.none/\G.O b≠.frame/\G.O b≠.sh/\(∀i,G.O b≠.loc i)/\(∀i j,G.O b≠.cell i j)/\(∀i j,G.O b=.slot i j->d=some i/\j=0))
 (hR:G.R b=off+k*1)(hsz:c.size=off+cap*1)(fL:k+m<=cap)(hkm:0<k+m)(hlc:cs.length=k*1)(hat:At w G.R b off cs)(hs:Src P w R 1 m ds v news)(hRR:R=G.R):
 ∃G',Inv G' n D (E.put d (.bb t (k+m) (cs++ds))) (a.put d (.slice (some ⟨b,off,none⟩) (k+m) cap)) (w.setRow b (laid c (off+k*1) news))/\aK G w G' (w.setRow b (laid c (off+k*1) news)):=by
 subst hRR
 have dt:off+k*1+news.length<=c.size:=by
  rw[hs.len,hsz,Nat.add_assoc,<-Nat.add_mul]
  exact Nat.add_le_add_left (Nat.mul_le_mul_right _ fL) _
 let G':=G.xU b (G.O b) (off+(k+m)*1)
 have hmul:(k+m)*1=k*1+m*1:=Nat.add_mul ..
 have cz:aK G w G' (w.setRow b (laid c (off+k*1) news)):=aK.write hb ⟨hon.2.1,hon.1⟩
  (fun j hj=>by rw[hR]at hj;rw[kM _ _ _ dt,if_neg (by omega)]) (by simp only[G',Gh.YG,if_true,hR,hmul];omega) (fun b' hb'=>by simp[G',hb'])
 have jt:cE G' (w.setRow b (laid c (off+k*1) news)):=by
  have hlt:b<w.heap.size:=h.bj.lt hon.1
  refine⟨fun b' hb'=>?_,fun b' hb'=>?_⟩
  ·have vH:w.heap.size<=b':=by simpa[World.setRow]using hb'
   have:b'≠b:=by omega
   simp[G',this,h.bj.k7 b' vH]
  ·have vH:w.heap.size<=b':=by simpa[World.setRow]using hb'
   have:b'≠b:=by omega
   simp[G',this,h.bj.mn b' vH]
 have same:∀b',b'≠b->G'.O b'=G.O b'/\G'.R b'=G.R b'/\(w.setRow b (laid c (off+k*1) news)).heap[b']? =w.heap[b']? :=fun b' hb'=>⟨by simp[G',hb'],by simp[G',hb'],setRow_other w b b' _ hb'⟩
 have eM:=h.store.mono h.bj cz (fun b' hb'=>by
  grind) (fun b' c' j _ hc'=>by
  grind)
 have:=h.put (s':=E.s) (lp':=E.lp) d (fun i hi=>by grind [bC]) (.bb t (k+m) (cs++ds)) (.slice (some ⟨b,off,none⟩) (k+m) cap) jt cz eM (fun _ hx=>hx) (fun i t _ ht=>ht.elim) (fun i t _⟨cs',zO⟩=>by cases zO)
  (fun i b' hdi hb'=>same b' (fun e=>by grind))
  (fun i b' c' j hdi hb' hc'=>by grind)
  (fun i hi=>by
    obtain⟨u,u1,u2,u3⟩:=hat
    subst hi
    refine⟨?_,?_⟩
    ·have hll:(cs++ds).length=(k+m)*1:=by rw[List.length_append,hlc,hs.qm,hmul]
     refine .bb t (k+m) (cs++ds) _ (.sl true 1 (k+m) (cs++ds) b off cap (fun j=>if j<k*1 then u j else news.getD (j -k*1) undef) (fun x hx=>?_) hll (by rw[hll];simp[G']) fL (fun j x hj=>?_) (fun j x hj=>?_)) (fun e=>by omega)
     ·rcases List.mem_append.1 hx with hx|hx
      ·exact u3 x hx
      ·exact hs.fl x hx
     ·rw[uq hb,if_pos rfl,kM _ _ _ dt]
      have hjl:j<(k+m)*1:=by rw[<-hll];exact(List.getElem?_eq_some_iff.1 hj).1
      by_cases hjk:j<k*1
      ·rw[if_neg (by omega),if_pos hjk]
       grind [List.getElem?_append_left,cell_of_row]
      ·have h1:=hs.len
       grind
     ·by_cases hjk:j<k*1
      ·rw[if_pos hjk]
       rw[List.getElem?_append_left (by grind)]at hj
       exact cz.vr h.bj (u2 j x hj)
      ·rw[if_neg hjk]
       rw[List.getElem?_append_right (by grind),hlc]at hj
       have h1:=hs.len
       have h2:=hs.qm
       have hlt:j -k*1<news.length:=by have:=(List.getElem?_eq_some_iff.1 hj).1;omega
       have hn:news[j -k*1]? =some (news.getD (j -k*1) undef):=by rw[List.getD_eq_getElem?_getD,List.getElem?_eq_getElem hlt];rfl
       exact cz.vr h.bj (hs.k9 _ x _ hj hn)
    ·intro base m' c6 hv hc
     injection hv with e1 e2 e3
     subst e3
     exact⟨b,off,_,fz,e1.symm,by simp only[G',Gh.TQ,if_true];grind,by simp[G'],setRow_heap w b c _ t fz hb,by grind [qk],by rw[qk _ _ _ dt];exact⟨hfz.1,hfz.2,hof,hz0.imp id fun⟨z1,z2,x,z3⟩=>⟨by omega,x,by
      have zp:0<k*1:=Nat.mul_pos z1 z2
      rw[kM _ _ _ dt,if_neg (by omega)];exact z3⟩,fun i y hi hy=>by
      rw[kM _ _ _ dt]at hy
      split at hy
      ·exact hs.one _ (List.mem_of_getElem? hy)
      grind⟩⟩)
 exact⟨G',by cases d<;>exact this,cz⟩
theorem JT(h:Inv G n D E a w){op:Op}{ty:TypeId}{tb:Nat}{x y:IX}{d:Option Nat}{K:St->Prop}(hd:bC n d=true)(hc:aA P op ty (.m3 tb x y)=true)(hw:jl P (.m3 tb x y) d E K):qI P G n D w a op ty d K:=by
 cases op<;>first|(simp[aA]at hc;done)|skip
 rename_i c
 simp only[aA]at hc
 split at hc<;>try(cases hc;done)
 rename_i u v t t' hb
 have hce:=qR hb
 subst hce
 simp only[Bool.and_eq_true]at hc
 obtain⟨⟨hu,hv⟩,hc⟩:=hc
 split at hc<;>try(cases hc;done)
 rename_i e ht
 have ht:=c3 ht
 simp only[Bool.and_eq_true]at hc
 obtain⟨⟨⟨⟨hs,hby⟩,hzl⟩,ht'⟩,heb⟩:=hc
 obtain rfl:e=tb:=by grind
 obtain⟨i,z,hi,hz,hzs,hz1⟩:=EA hzl
 obtain⟨i',hi',pT⟩:=j8 hs
 rw[hi]at hi';injection hi' with hi';subst hi'
 have jg:0<1:=Nat.one_pos
 have yC:0<1:=Nat.one_pos
 have hby:i.bytes=1:=by
  unfold kt at hby
  rw[hi]at hby
  simpa using hby
 have ht2:(∃e',P.underlying t'=some (.slice e'))\/P.underlying t'=some .string:=by
  rcases Bool.or_eq_true .. ▸ht' with h|h
  ·grind [cI,c3]
  ·grind [zz]
 have hw':pL e E x d K (E.x x) (E.x y):=hw
 have key:∃k m cs ds news,E.x x=.bb e k cs/\Src P w G.R 1 m ds (a.eval v) news/\(k+m)*1<=room/\K ((E.drain x).put d (.bb e (k+m) (cs++ds))):=by
  have hbx:=XR.aV h hu
  have hby:=XR.aV h hv
  generalize hx:E.x x=xv at hw' hbx
  generalize hy:E.x y=yv at hw' hby
  unfold pL at hw'
  split at hw'<;>try(exact hw'.elim)
  ·rename_i t' k cs o s' m ds
   obtain⟨rfl,h2,h3,h4⟩:=hw'
   obtain⟨news,ff⟩:=Src.X8 (P:=P) hby h2
   grind
  ·rename_i t' k cs ds
   obtain⟨rfl,h3,h4⟩:=hw'
   have e1:=VR.iJ hby
   exact⟨k,ds.length,cs,_,_,rfl,by rw[e1];exact Src.Ix,h3,h4⟩
 obtain⟨k,m,cs,ds,news,hx,ff,cf,hk⟩:=key
 have hiv:dp (E.x x)=true:=by rw[hx];rfl
 obtain⟨G1,h1,hp1,hv1,wo,hR1,hsh,Pl,fB⟩:=h.drain hu hiv (Bw d) (by cases d<;>simp[Bw]) (by cases d<;>simp[Bw])
 rw[hx]at hv1 wo
 have pV:Src P w G1.R 1 m ds (a.eval v) news:=by rw[hR1];exact ff
 have grow:∀(base:Option Addr)(cap:Nat)(olds:List Value),a.eval u=.slice base k cap->cap<k+m->olds.length=k*1->cs.length=k*1->Fl cs->
  (Builtin.firstCells 1 k (.slice base k cap)).run P w.drew=.ok olds.toArray w.drew->(∀(j:Nat)(c:AV)(u:Value),cs[j]? =some c->olds[j]? =some u->VR w G1.R c u)->
  qI P G n D w a (.call {callee:=.builtin .append,args:= #[u,v],argTypes:= #[t,t']}) ty d K:=by
  intro base cap olds e1 CX hol hcl hcf hold sW
  have cH:=rF (ty:=ty) ht ht2 hi hz pT pV hold CX (by grind) (by grind)
  have hge:k+m<=grownCap w (k+m) cap e:=grownCap_ge w (k+m) cap e
  obtain⟨G2,h3,h4⟩:=(h1.drew).aeO (t:=e) (c:=olds.toArray++news.toArray++Builtin.zeroCells z.cells (grownCap w (k+m) cap e -(k+m))) (m:=k+m) (cs:=cs++ds) (cap:=grownCap w (k+m) cap e) (ob:=match d with|some i=>.slot i 0|none=>.none) hd (by omega)
   (fun i hi=>by subst hi;rfl) (fun hn=>by subst hn;rfl) (by rw[List.length_append,hcl,ff.qm,Nat.add_mul]) hge (by
     simp only[Array.size_append,List.size_toArray,size_zeroCells,hol,ff.len,hzs,<-Nat.add_mul]
     grind) (fun c hc=>by
     rcases List.mem_append.1 hc with hc|hc
     ·exact hcf c hc
     ·exact ff.fl c hc)
   (fun j x hj=>by
     have hl1:=ff.len
     have hl2:=ff.qm
     by_cases hjk:j<k*1
     ·rw[List.getElem?_append_left (by grind)]at hj
      have hlt:j<olds.length:=by rw[hol];exact hjk
      refine⟨olds[j],?_,?_⟩
      ·grind
      ·exact(aK.drew G1 w).vr h1.bj (sW j x _ hj (List.getElem?_eq_getElem hlt))
     ·rw[List.getElem?_append_right (by grind),hcl]at hj
      have hlt:j -k*1<news.length:=by have:=(List.getElem?_eq_some_iff.1 hj).1;omega
      refine⟨news[j -k*1],?_,?_⟩
      ·grind
      ·exact(aK.drew G1 w).vr h1.bj (pV.k9 _ x _ hj (List.getElem?_eq_getElem hlt))) (0,0) ⟨fun k _ hk=>by simp at hk,Nat.le_refl _⟩ (.inl rfl) (fun i y hi hy=>by
     rw[Array.append_assoc,<-Array.append_assoc,Array.getElem?_append_right (by simp only[Array.size_append,List.size_toArray,hol,ff.len,<-Nat.add_mul];exact hi)]at hy
     grind [wR,List.mem_of_getElem?])
  intro pos after gd next Q hn
  refine aZ ?_ (hn G2 _ _ _ h3 (hp1.trans ((aK.drew G1 w).trans h4)) hk)
  simp[execOp,resolve,invoke,builtin,e1,cH]
 rcases VR.ik (VR.RF hv1)with⟨e0,rfl,rfl⟩|⟨b,off,cap,e1,hcl,hRb,fL,hat⟩
 ·
  have e1:=e0.own
  by_cases hm:m=0
  ·subst hm
   have hds:ds=[]:=List.eq_nil_of_length_eq_zero (by simpa using ff.qm)
   subst hds
   have cH:=nn (ty:=ty) ht ht2 hi pT pV
   have yI:Inv G1 n D ((E.drain x).put d (.bb e 0 [])) (a.put d (.slice none 0 0)) w:=by
    have:=h1.put (s':=(E.drain x).s) (lp':=(E.drain x).lp) d (fun i hi=>by grind [bC]) (.bb e 0 []) (.slice none 0 0) h1.bj (aK.refl G1 w) h1.store (fun _ hx=>hx) (fun i t _ ht=>ht.elim) (fun i t _⟨cs,hcs⟩=>by cases hcs)
     (fun _ _ _ _=>⟨rfl,rfl,rfl⟩) (fun _ _ _ _ _ _ hcc=>⟨hcc,rfl,rfl⟩) (fun i hdi=>⟨.bb _ _ _ _ (.slnil _ _) (fun _=>rfl),fun base m' c6 hv hc=>by grind⟩)
    cases d<;>exact this
   intro pos after gd next Q hn
   refine aZ (w':=w) ?_ (hn G1 _ _ _ yI hp1 hk)
   simp[execOp,resolve,invoke,builtin,e1,cH]
  ·exact grow none 0 [] e1 (by omega) (by simp) (by simp) Fl.nil (by simp[Builtin.firstCells]) (fun j c u hc=>by simp at hc)
 ·by_cases dt:k+m<=cap
  ·by_cases hm:m=0
   ·subst hm
    have hds:ds=[]:=List.eq_nil_of_length_eq_zero (by simpa using ff.qm)
    have wm:news=[]:=List.eq_nil_of_length_eq_zero (by simpa using ff.len)
    subst hds;subst wm
    have cH:=ir (ty:=ty) (w:=w) ht ht2 hi pT pV (b:=b) (off:=off) (k:=k) (cap:=cap) dt (w':=w) rfl
    simp only[List.append_nil,Nat.add_zero]at hk cH
    have yI:Inv G1 n D ((E.drain x).put d (.bb e k cs)) (a.put d (a.eval u)) w:=by
     have:=h1.put (s':=(E.drain x).s) (lp':=(E.drain x).lp) d (fun i hi=>by grind [bC]) (.bb e k cs) (a.eval u) h1.bj (aK.refl G1 w) h1.store (fun _ hx=>hx) (fun i t _ ht=>ht.elim) (fun i t _⟨cs,hcs⟩=>by cases hcs)
      (fun _ _ _ _=>⟨rfl,rfl,rfl⟩) (fun _ _ _ _ _ _ hcc=>⟨hcc,rfl,rfl⟩) (fun i hdi=>by subst hdi;exact⟨hv1,wo⟩)
     cases d<;>exact this
    intro pos after gd next Q hn
    refine aZ (w':=w) ?_ (hn G1 _ _ _ yI hp1 hk)
    simp[execOp,resolve,invoke,builtin,e1,cH]
   ·obtain⟨b',aay,c,fz,q1,q2,q3,q4,q5,q6⟩:=wo _ _ _ e1 (by omega)
    injection q1 with q1;injection q1 with q1 q1'
    subst q1;subst q1'
    have hon:G1.O b≠.none/\G1.O b≠.frame/\G1.O b≠.sh/\(∀i,G1.O b≠.loc i)/\(∀i j,G1.O b≠.cell i j)/\(∀i j,G1.O b=.slot i j->d=some i/\j=0):=by
     rw[q2]
     cases d with
     |none=>simp[Bw]
     |some i=>grind [Bw]
    obtain⟨G2,h3,h4⟩:=h1.Zl (k:=k) (m:=m) hd q4 ⟨q6.1,q6.2.1⟩ q6.2.2.1 (q6.2.2.2.1.imp id fun⟨z1,z2⟩=>⟨z1,jg,z2⟩) q6.2.2.2.2 (fun i hi=>by subst hi;exact q2) hon q3 q5 dt (by omega) hcl hat pV rfl
    have Rq:off+k*1+news.length<=c.size:=by
     rw[ff.len,q5,Nat.add_assoc,<-Nat.add_mul]
     exact Nat.add_le_add_left (Nat.mul_le_mul_right _ dt) _
    have eM:=eo (P:=P) b (off+k*1) e fz news 0 c w q4 q6.1 (by grind) ff.one
    have cH:=ir (ty:=ty) (w:=w) ht ht2 hi pT pV (b:=b) (off:=off) (k:=k) (cap:=cap) dt (w':=w.setRow b (laid c (off+k*1) news)) (by grind [laid])
    intro pos after gd next Q hn
    refine aZ ?_ (hn G2 _ _ _ h3 (hp1.trans h4) hk)
    simp[execOp,resolve,invoke,builtin,e1,cH]
  ·have hfl:Fl cs:=by obtain⟨_,_,_,hf⟩:=hat;exact hf
   obtain⟨us,u1,u2,u3⟩:=hat.k9
   exact grow _ cap us e1 (by omega) (by rw[u1,hcl]) hcl hfl (run_firstCells_some w.drew 1 k ⟨b,off,none⟩ k cap us (by rw[u1,hcl]) u2) u3
end
section
variable{P:Program}{G G':Gh}{n:Nat}{D:List Deferred}{E:St}{a:Act}{w w':World}
theorem bc.shape{s:ae}(h:bc G w s){b:Nat}{cs:List AV}(hs:s b=some (.cells cs)):∃t,w.shape? b=some (t,cs.length)/\AK t cs:=by
 obtain⟨_,_,c,t,h4,h5,h6⟩:=h b _ hs
 exact⟨t,by simp[World.shape?,h4,h5.1],h6⟩
theorem XR.ref(h:Inv G n D E a w){y:Operand}{x:IX}(hy:bQ y x=true){b off:Nat}(hx:E.x x=.ref b off):a.eval y=.pointer (some ⟨b,off,none⟩):=by
 have:=XR.aV h hy
 rw[hx]at this
 exact VR.fZ this
theorem QX(h:Inv G n D E a w){op:Op}{ty:TypeId}{m t0 j0 u0:Nat}{x:IX}{d:Option Nat}{K:St->Prop}(hd:bC n d=true)(hc:aA P op ty (.Hp m t0 j0 u0 x)=true)(hw:jl P (.Hp m t0 j0 u0 x) d E K):qI P G n D w a op ty d K:=by
 cases op<;>first|(simp[aA]at hc;done)|skip
 rename_i t y
 simp only[aA,Bool.and_eq_true,beq_iff_eq]at hc
 obtain⟨⟨rfl,_⟩,hc⟩:=hc
 obtain⟨hi,_,hj0,hj1,hk⟩:=hw
 have hvr:VR w G.R (E.x x) (a.eval y):=by
  have:=XR.aV h hc
  generalize E.x x=av at hi this
  cases av<;>first|exact this|(simp[dp]at hi)
 have eO:=gT hi hvr
 have hj:j0+1<(cellsOf (E.x x)).length:=(List.getElem?_eq_some_iff.1 hj1).1
 have hcs:∀(G':Gh)(w':World)(o:Nat->cZ),aK G w G' w'->dq G' w' o (setAt (views (cellsOf (E.x x))) j0 [.m6 t0,.bb u0 0 []]) (a.eval y).cells:=by
  intro G' w' o hp
  have hlen:j0+[AV.m6 t0,AV.bb u0 0 []].length<=(views (cellsOf (E.x x))).length:=by simp[views];omega
  refine⟨by rw[vi _ _ _ hlen];simp only[List.length_map,views];exact eO.1,fun j c u hcj hu=>?_⟩
  rw[vh _ _ _ _ hlen]at hcj
  by_cases h1:j=j0
  ·subst h1
   rw[if_pos ⟨Nat.le_refl _,by simp⟩,Nat.sub_self]at hcj
   injection hcj with hcj;subst hcj
   have hu':=eO.2.1 j .fj u hj0 hu
   obtain rfl:u=.pointer none:=VR.s9 hu'
   exact⟨.m6 t0,trivial⟩
  ·by_cases h2:j=j0+1
   ·subst h2
    rw[if_pos ⟨by omega,by simp⟩,show j0+1 -j0=1 by omega]at hcj
    injection hcj with hcj;subst hcj
    have hu':=eO.2.1 _ _ u hj1 hu
    have e:u=.slice none 0 0:=by cases hu' with|bb _ _ _ _ h h0=>exact h0 rfl
    subst e
    exact⟨.bb _ _ _ _ (.slnil _ _) (fun _=>rfl),fun base m' c6 hv hc=>by injection hv with _ e2 e3;omega⟩
   ·rw[if_neg (by simp;omega),eY]at hcj
    cases hz:(cellsOf (E.x x))[j]? with
    |none=>rw[hz]at hcj;cases hcj
    |some c0=>
     rw[hz]at hcj;simp at hcj
     have h1:=hp.vr h.bj (eO.2.1 j c0 u hz hu)
     rw[<-hcj]
     exact⟨h1.view,dy.view ..⟩
 have hfl:AK t0 (setAt (views (cellsOf (E.x x))) j0 [.m6 t0,.bb u0 0 []]):=by
  intro c hc'
  unfold setAt at hc'
  simp only[List.mem_append]at hc'
  have base:=eO.2.2.views
  rcases hc' with(hc'|hc')|hc'
  ·exact .inl (base c (List.mem_of_mem_take hc'))
  ·simp only[List.mem_cons,List.not_mem_nil,or_false]at hc'
   rcases hc' with rfl|rfl
   ·exact .inr rfl
   ·exact .inl rfl
  ·exact .inl (base c (List.mem_of_mem_drop hc'))
 intro pos after g next Q hn
 obtain⟨G',h1,h2⟩:=h.X0 hd (t:=t0) (.inl ⟨rfl,rfl⟩) hcs hfl
 refine aZ ?_ (hn G' _ _ _ h1 h2 (hk w.heap.size (h.store.get_none h.bj)))
 simp[execOp,Instr.box,newVar,newRow]
end
section
variable{P:Program}{G G':Gh}{n:Nat}{D:List Deferred}{E:St}{a:Act}{w w':World}
theorem Inv.MO(h:Inv G n D E a w){d:Option Nat}(hd:bC n d=true){av:AV}{v:Value}(hv:NR G w E a av v):Inv G n D ((b9 E av d).put d av) (a.put d v) w:=by
 have hd':∀i,d=some i->i<n:=fun i hi=>by grind [bC]
 by_cases hlp:∃t off,av=.lp t off
 ·obtain⟨t,off,rfl⟩:=hlp
  cases d with
  |none=>exact h
  |some i=>
   obtain⟨b,hv1,hv2⟩:=hv
   refine h.put (s':=E.s) (lp':=(i,t)::E.lp) (some i) hd' (.lp t off) v h.bj (aK.refl G w) h.store (fun x hx=>List.mem_cons_of_mem _ hx) (fun j t' hj ht=>?_) (fun j t' _⟨cs,hcs⟩=>by cases hcs)
    (fun _ _ _ _=>⟨rfl,rfl,rfl⟩) (fun _ _ _ _ _ _ hcc=>⟨hcc,rfl,rfl⟩) (fun j hj=>?_)
   ·injection hj with hj;subst hj
    have:t=t':=ht
    grind
   ·injection hj with hj;subst hj
    refine⟨b,hv1,fun cs hcs=>?_⟩
    by_cases hit:i=t
    ·grind [St.put,aX]
    ·simp only[St.put,aX,hit,if_false]at hcs
     grind [Act.put,Array.getElem?_setIfInBounds_ne]
 ·have hnr:dp av=true/\VR w G.R av v/\view av=av:=by
   cases av<;>first|exact hv|grind
  have hl:b9 E av d=E:=by cases av<;>first|rfl|exact(hlp ⟨_,_,rfl⟩).elim|grind [absurd,dp]
  rw[hl]
  have:=h.put (s':=E.s) (lp':=E.lp) d hd' av v h.bj (aK.refl G w) h.store (fun _ hx=>hx) (fun i t _ ht=>(eR hnr.1 t ht).elim) (fun i t _⟨cs,hcs⟩=>(ni hnr.1 cs hcs).elim)
   (fun _ _ _ _=>⟨rfl,rfl,rfl⟩) (fun _ _ _ _ _ _ hcc=>⟨hcc,rfl,rfl⟩) (fun i hi=>by grind [dc.pz,dy.view])
  cases d<;>exact this
theorem Inv.V9(h:Inv G n D E a w){d:Option Nat}(hd:bC n d=true):Inv G n D (E.put d (.iP [])) (a.put d undef) w:=by
 have:=h.put (s':=E.s) (lp':=E.lp) d (fun i hi=>by grind [bC]) (.iP []) undef h.bj (aK.refl G w) h.store (fun _ hx=>hx) (fun i t _ ht=>ht.elim) (fun i t _⟨cs,hcs⟩=>by cases hcs)
  (fun _ _ _ _=>⟨rfl,rfl,rfl⟩) (fun _ _ _ _ _ _ hcc=>⟨hcc,rfl,rfl⟩) (fun i hi=>⟨#[],rfl,rfl,fun j x y hx=>by simp at hx⟩)
 cases d<;>exact this
theorem Pc(h:Inv G n D E a w){op:Op}{ty:TypeId}{f:Nat}{x:IX}{d:Option Nat}{K:St->Prop}(hd:bC n d=true)(hc:aA P op ty (.yf f x)=true)(hw:jl P (.yf f x) d E K):qI P G n D w a op ty d K:=by
 cases op<;>first|(simp[aA]at hc;done)|skip
 rename_i c
 obtain⟨callee,ys,ats⟩:=c
 simp only[aA]at hc
 split at hc<;>try(cases hc;done)
 rename_i g
 simp only[Bool.and_eq_true,beq_iff_eq]at hc
 obtain⟨rfl,hxs⟩:=hc
 obtain⟨hi,hid,hk⟩:=(show Ht P f E d K (E.x x) from hw)
 obtain⟨l⟩:=ys
 match l,hxs with
 |[y],hxs=>
  have hy:bQ y x=true:=by simpa[iI]using hxs
  have hvr:VR w G.R (E.x x) (a.eval y):=by
   have:=XR.aV h hy
   generalize E.x x=av at hi this
   cases av<;>first|exact this|grind [dp]
  have hiv:dp (view (E.x x))=true:=by generalize E.x x=av at hi;cases av<;>simp_all [dp,view]
  have hvv:view (view (E.x x))=view (E.x x):=by generalize E.x x=av;cases av<;>rfl
  intro pos after gd next Q hn
  refine aZ (v:=a.eval y) ?_ (hn G _ _ _ (h.MO hd (NR.mk hiv hvr.view hvv)) (aK.refl G w) ?_)
  ·have cH:=hid (a.eval y) w
   simp[execOp,resolve,Act.eval,Deferred.ofValue,invoke]at cH⊢
   grind
  ·have e:b9 E (view (E.x x)) d=E:=by
    generalize E.x x=av at hi
    cases av<;>cases d<;>first|rfl|grind [dp]
   grind
 |[],hxs=>simp[iI]at hxs
 |_::_::_,hxs=>simp[iI]at hxs
theorem QZ(h:Inv G n D E a w){op:Op}{ty:TypeId}{x:IX}{d:Option Nat}{K:St->Prop}(hd:bC n d=true)(hc:aA P op ty (.HD x)=true)(hw:jl P (.HD x) d E K):qI P G n D w a op ty d K:=by
 cases op<;>first|(simp[aA]at hc;done)|skip
 rename_i s t y
 simp only[aA,Bool.and_eq_true]at hc
 obtain⟨⟨hy,hs⟩,ht⟩:=hc
 have hw':JJ E d K (E.x x):=hw
 generalize hxv:E.x x=xv at hw'
 unfold JJ at hw'
 split at hw'
 ·rename_i b off
  have e1:=XR.ref h hy hxv
  generalize hsb:E.s b=ob at hw'
  unfold QN at hw'
  split at hw'
  ·rename_i cs
   obtain⟨hlt,hk⟩:=hw'
   obtain⟨t',hsh,_⟩:=h.store.shape hsb
   split at hs<;>try(cases hs;done)
   rename_i e hse
   split at hs<;>try(cases hs;done)
   rename_i j hj
   split at ht<;>try(cases ht;done)
   rename_i htu
   have cH:=Lib.run_to_unsafe (P:=P) w ⟨b,off,none⟩ hse htu hj (by grind) hsh hlt
   intro pos after g next Q hn
   refine aZ (v:=.pointer (some ⟨b,off,none⟩)) ?_ (hn G _ _ _ (h.MO hd (NR.mk rfl (.ref b off) rfl)) (aK.refl G w) hk)
   simp[execOp,e1,cH]
  grind
 grind
theorem QY(h:Inv G n D E a w){op:Op}{ty:TypeId}{u:Nat}{x:IX}{d:Option Nat}{K:St->Prop}(hd:bC n d=true)(hc:aA P op ty (.HC u x)=true)(hw:jl P (.HC u x) d E K):qI P G n D w a op ty d K:=by
 cases op<;>first|(simp[aA]at hc;done)|skip
 rename_i s t y
 simp only[aA,Bool.and_eq_true]at hc
 obtain⟨⟨hy,hs⟩,ht⟩:=hc
 have hw':JI P u E d K (E.x x):=hw
 generalize hxv:E.x x=xv at hw'
 unfold JI at hw'
 split at hw'
 ·rename_i b off
  have e1:=XR.ref h hy hxv
  generalize hsb:E.s b=ob at hw'
  unfold QM at hw'
  split at hw'
  ·rename_i cs
   obtain⟨t0,hct,hl,hk⟩:=hw'
   obtain⟨t',hsh,hfl⟩:=h.store.shape hsb
   have:t'=t0:=by
    rcases hfl _ (List.mem_of_getElem? hct)with h1|h1
    ·cases h1
    ·grind
   subst this
   split at hs<;>try(cases hs;done)
   rename_i hse
   split at ht<;>try(cases ht;done)
   rename_i e hte
   simp only[Bool.and_eq_true,beq_iff_eq]at ht
   obtain⟨rfl,hj⟩:=ht
   obtain⟨j,hj⟩:=Option.isSome_iff_exists.1 hj
   have cH:=Lib.run_from_unsafe (P:=P) w ⟨b,off,none⟩ hse hte hj hsh hl
   intro pos after g next Q hn
   refine aZ (v:=.pointer (some ⟨b,off,none⟩)) ?_ (hn G _ _ _ (h.MO hd (NR.mk rfl (.ref b off) rfl)) (aK.refl G w) hk)
   simp[execOp,e1,cH]
  grind
 grind
theorem PC(h:Inv G n D E a w){op:Op}{ty:TypeId}{o:rY}{d:Option Nat}{K:St->Prop}(hd:bC n d=true)(hc:aA P op ty o=true)(hw:owp P o d E K):qI P G n D w a op ty d K:=by
 unfold owp at hw
 cases hp:pv o (xg true E) E with
 |dh av=>
  rw[hp]at hw
  obtain⟨v,hr,hnr⟩:=zr h hc (av:=av) (.inl hp)
  exact fun pos after g next Q hn=>aZ (hr d pos after g) (hn G _ _ _ (h.MO hd hnr) (aK.refl G w) hw)
 |fw c av=>
  rw[hp]at hw
  obtain⟨v,hr,hnr⟩:=zr h hc (av:=av) (.inr ⟨c,hp,hw.1⟩)
  exact fun pos after g next Q hn=>aZ (hr d pos after g) (hn G _ _ _ (h.MO hd hnr) (aK.refl G w) hw.2)
 |no=>
  rw[hp]at hw
  have hw':jl P o d E K:=hw
  cases o with
  |oM tr x=>grind [UO]
  |jq z=>grind [F4]
  |mC z=>exact(F4 h hd).2 hc hw'
  |Jw m x=>grind [NG]
  |Bd m x=>exact(NG h hd).2 hc hw'
  |gr sz m z ps=>grind [JV]
  |store m p v=>grind [Pg]
  |append sz by' x y=>grind [L1]
  |jG x=>grind [L4]
  |gy x=>grind [HJ]
  |call f args=>grind [JW]
  |kP sz by' z l c=>grind [L5]
  |gw x args=>grind [Pd]
  |kz x=>grind [L3]
  |qt x=>grind [Q1]
  |ks sz m z ps=>grind [HI]
  |mZ sz by' z x y=>grind [JS]
  |m4 sz by' z x y=>grind [JU]
  |Ho sz m x=>grind [QW]
  |Hp m t j u x=>grind [QX]
  |m3 t x y=>grind [JT]
  |HD x=>grind [QZ]
  |yf f x=>grind [Pc]
  |HC u x=>grind [QY]
  |qU z x=>grind [L2]
  |T7 sz ow x=>grind [UN]
  |zd sz ow x=>grind [Pf]
  |mh x=>grind [F6]
  |mW off j x=>grind [Pe]
  |UR ne x=>grind [UM]
  |ye f i args=>grind [Pb]
  |_=>exact hw'.elim
def xI(P:Program)(ops:Array Oper)(o:Oper)(a:Act)(w:World)(next:Act->World->Prop)(Q:Exit->Act->World->Prop):Prop:=if Region.wanted o (yielded ops a.tmps)then o.wp P a w next Q\/(o.asks P a w/\LetsOut Q)else next (a.put o.dst undef) w
theorem DG{ops:Array Oper}{o:Oper}{next:Act->World->Prop}{Q:Exit->Act->World->Prop}(hw:Region.wanted o (yielded ops a.tmps)=true)(h:o.wp P a w next Q):xI P ops o a w next Q:=by unfold xI;grind
theorem GL{ops:Array Oper}{o:Oper}{next:Act->World->Prop}{Q:Exit->Act->World->Prop}(hw:Region.wanted o (yielded ops a.tmps)=false)(h:next (a.put o.dst undef) w):xI P ops o a w next Q:=by unfold xI;grind
theorem JQ(h:Inv G n D E a w){d:Option Nat}(hd:bC n d=true)(av:AV)(hl:∀t,bD av t->∀i,d=some i->(i,t)∈E.lp):Inv G n D (E.put d (.when false av)) (a.put d undef) w:=by
 have:=h.put (s':=E.s) (lp':=E.lp) d (fun i hi=>by grind [bC]) (.when false av) undef h.bj (aK.refl G w) h.store (fun _ hx=>hx) (fun i t hi ht=>hl t ht i hi) (fun i t _⟨cs,hcs⟩=>by cases hcs)
  (fun _ _ _ _=>⟨rfl,rfl,rfl⟩) (fun _ _ _ _ _ _ hcc=>⟨hcc,rfl,rfl⟩) (fun i hi=>⟨fun hh=>Bool.noConfusion hh,fun _=>rfl⟩)
 cases d<;>exact this
theorem iV(E:St):∀(av:AV)(d:Option Nat),(b9 E av d).e=E.e/\(b9 E av d).s=E.s/\∀x∈E.lp,x∈(b9 E av d).lp
 |.lp t _,some i=>⟨rfl,rfl,fun x hx=>List.mem_cons_of_mem _ hx⟩
 |.lp t _,none=>⟨rfl,rfl,fun _ hx=>hx⟩
 |.when _ av,d=>iV E av d
 |.undef,_|.bool _,_|.int _ _,_|.str _,_|.fj,_|.ref _ _,_|.sp _,_|.loc _,_|.sl _ _ _ _,_|.arr _ _ _ _,_|.agg _,_|.iP _,_|.fn _ _ _,_|.py,_|.mp _,_|.ud,_|.us _ _ _,_|.one,_|.m6 _,_|.kQ,_|.bb _ _ _,_=>⟨rfl,rfl,fun _ hx=>hx⟩
theorem Sb(h:Inv G n D E a w)(av:AV)(d:Option Nat):Inv G n D (b9 E av d) a w:=by
 obtain⟨e1,e2,e3⟩:=iV E av d
 exact⟨h.bj,by rw[e2];exact h.store,h.size,fun i v hv=>by rw[e1];exact h.cm i v hv,fun i hi=>by rw[e1];exact h.EI i hi,fun i t ht=>e3 _ (h.LA i t (by grind)),h.pO⟩
theorem Ah:∀(av:AV)(d:Option Nat)(t:Nat),bD av t->∀i,d=some i->(i,t)∈(b9 E av d).lp
 |.lp t' off,_,t,ht,i,rfl=>by have:t'=t:=ht;subst this;exact List.mem_cons_self
 |.when _ av,d,t,ht,i,hi=>Ah av d t ht i hi
 |.undef,_,_,ht,_,_|.bool _,_,_,ht,_,_|.int _ _,_,_,ht,_,_|.str _,_,_,ht,_,_|.fj,_,_,ht,_,_|.ref _ _,_,_,ht,_,_|.sp _,_,_,ht,_,_|.loc _,_,_,ht,_,_|.sl _ _ _ _,_,_,ht,_,_
 |.arr _ _ _ _,_,_,ht,_,_|.agg _,_,_,ht,_,_|.iP _,_,_,ht,_,_|.fn _ _ _,_,_,ht,_,_|.py,_,_,ht,_,_|.mp _,_,_,ht,_,_|.ud,_,_,ht,_,_|.us _ _ _,_,_,ht,_,_|.one,_,_,ht,_,_|.m6 _,_,_,ht,_,_|.kQ,_,_,ht,_,_|.bb _ _ _,_,_,ht,_,_=>ht.elim
theorem Inv.uH{d:Option Nat}{av:AV}(h:Inv G n D (E.put d av) a w)(hd:bC n d=true):Inv G n D (E.put d (.when true av)) a w:=by
 cases d with
 |none=>exact h
 |some i=>
 have hlk:∀k,k≠i->look (E.put (some i) (.when true av)).e k=look (E.put (some i) av).e k:=fun k hk=>by simp[St.put,aX,Ne.symm hk]
 have e1:look (E.put (some i) av).e i=av:=by simp[St.put,aX]
 have e2:look (E.put (some i) (.when true av)).e i=.when true av:=by simp[St.put,aX]
 have Pl:∀d' cs,look (E.put (some i) (.when true av)).e d'=.loc cs->look (E.put (some i) av).e d'=.loc cs:=by
  intro d' cs hcs
  by_cases hd':d'=i
  ·grind
  ·grind
 have fr:∀k av' u,dc G w (E.put (some i) av).e a.tmps k av' u->dc G w (E.put (some i) (.when true av)).e a.tmps k av' u:=fun k av' u hv=>dc.frame (fun _ _ hv=>hv) (fun b _=>⟨rfl,rfl,rfl⟩) (fun _ _ _ _ hc=>⟨hc,rfl,rfl⟩) _ _ (fun d' _ cs hcs=>⟨cs,Pl d' cs hcs,rfl⟩) hv
 refine⟨h.bj,h.store,h.size,fun k u hu=>?_,fun k hk=>?_,fun k t ht=>?_,h.pO⟩
 ·have hs:=h.cm k u hu
  by_cases hk:k=i
  ·subst hk
   rw[e1]at hs
   rw[e2]
   exact⟨fun _=>fr _ _ _ hs,fun hh=>Bool.noConfusion hh⟩
  grind
 ·have:k≠i:=by
   have:i<n:=by simpa[bC]using hd
   omega
  rw[hlk k this];exact h.EI k hk
 ·by_cases hk:k=i
  ·subst hk
   rw[e2]at ht
   exact h.LA k t (by rw[e1];exact ht)
  ·rw[hlk k hk]at ht;exact h.LA k t ht
theorem xS{ops:Array Oper}{tmps:Array Value}{j t:Nat}(h:(ops[j]?).bind (·.dst)=some t):yielded ops tmps j=(match tmps[t]? with|some (.bool b)=>some b|_=>none):=by grind [yielded]
theorem CV{ops:Array Oper}{o:Oper}{j t:Nat}{want b:Bool}(hg:o.guard=some (j,want))(ht:(ops[j]?).bind (·.dst)=some t)(hv:a.tmps[t]? =some (.bool b)):Region.wanted o (yielded ops a.tmps)=(b==want):=by grind [Region.wanted,xS]
theorem I0(h:Inv G n D E a w){t:Nat}(hl:look E.e t≠.undef):∃v,a.tmps[t]? =some v/\dc G w E.e a.tmps t (look E.e t) v:=by
 have hlt:t<a.tmps.size:=by rw[h.size];exact h.DC hl
 exact⟨_,fR hlt,h.cm t _ (fR hlt)⟩
theorem gB(h:Inv G n D E a w){ops:Array Oper}{o:Oper}{o':au}{K:St->Prop}(hc:g9 P n ops o o'=true)(hw:Lz P o' E K){next:Act->World->Prop}{Q:Exit->Act->World->Prop}
 (hn:∀G' E' a' w',Inv G' n D E' a' w'->aK G w G' w'->K E'->next a' w'):xI P ops o a w next Q:=by
 obtain⟨dst,op,ty,pos,after,g⟩:=o
 obtain⟨d,io,ig⟩:=o'
 simp only[g9,Bool.and_eq_true,beq_iff_eq]at hc
 obtain⟨⟨⟨rfl,hd⟩,hcg⟩,Zr⟩:=hc
 have runs:∀{E₁:St},Inv G n D E₁ a w->owp P io dst E₁ K->(⟨dst,op,ty,pos,after,g⟩:Oper).wp P a w next Q:=fun h1 ho=>PC h1 hd Zr ho pos after g next Q hn
 cases ig with
 |none=>
  cases g with
  |some g=>simp[UB]at hcg
  |none=>exact DG rfl (runs h hw)
 |some tw=>
  obtain⟨t,want⟩:=tw
  cases g with
  |none=>simp[UB]at hcg
  |some jw=>
  obtain⟨j,Bb⟩:=jw
  simp only[UB,Bool.and_eq_true,beq_iff_eq]at hcg
  obtain⟨rfl,ht⟩:=hcg
  have hw':zN P io dst t Bb E K (look E.e t):=hw
  have skip:∀{E₁:St},Inv G n D E₁ a w->K (E₁.put dst (.iP []))->next (a.put dst undef) w:=fun h1 hk=>hn G _ _ _ (h1.V9 hd) (aK.refl G w) hk
  have core:∀(g:Bool),Region.wanted ⟨dst,op,ty,pos,after,some (j,Bb)⟩ (yielded ops a.tmps)=g->Qk P g io E dst K (pv io (xg g E) E)->xI P ops ⟨dst,op,ty,pos,after,some (j,Bb)⟩ a w next Q:=by
   intro g hwt hx
   cases g with
   |true=>
    refine DG hwt ?_
    cases hp:pv io (xg true E) E with
    |dh av=>
     rw[hp]at hx
     obtain⟨v,hr,hnr⟩:=zr h Zr (av:=av) (.inl hp)
     refine aZ (hr _ _ _ _) (hn G _ _ _ ((h.MO hd hnr).uH hd) (aK.refl G w) hx)
    |fw c av=>
     rw[hp]at hx
     obtain⟨v,hr,hnr⟩:=zr h Zr (av:=av) (.inr ⟨c,hp,hx.1 rfl⟩)
     refine aZ (hr _ _ _ _) (hn G _ _ _ ((h.MO hd hnr).uH hd) (aK.refl G w) hx.2)
    |no=>
     rw[hp]at hx
     exact runs h (hx.1 rfl)
   |false=>
    refine GL hwt ?_
    cases hp:pv io (xg false E) E with
    |dh av=>
     rw[hp]at hx
     exact hn G _ _ _ (JQ (Sb h av dst) hd av (fun t' ht' i hi=>Ah av dst t' ht' i hi)) (aK.refl G w) hx
    |fw c av=>
     rw[hp]at hx
     exact hn G _ _ _ (JQ (Sb h av dst) hd av (fun t' ht' i hi=>Ah av dst t' ht' i hi)) (aK.refl G w) hx.2
    |no=>
     rw[hp]at hx
     exact skip h (hx.2 rfl)
  cases hlk:look E.e t with
  |bool b=>
   rw[hlk]at hw'
   obtain⟨v,hv1,hv2⟩:=I0 h (t:=t) (by grind)
   rw[hlk]at hv2
   have:=VR.lU hv2.1
   subst this
   exact core _ (CV (o:=⟨dst,op,ty,pos,after,some (j,Bb)⟩) rfl ht hv1) hw'
  | «when» b' g=>
    rw[hlk]at hw'
    obtain⟨v,hv1,hv2⟩:=I0 h (t:=t) (by grind)
    rw[hlk]at hv2
    cases g with
    |bool b=>
     have hx:Qk P (b'&&(b==Bb)) io E dst K (pv io (xg (b'&&(b==Bb)) E) E):=hw'
     cases b' with
     |true=>
      have hvb:=hv2.1 rfl
      have:=VR.lU hvb.1
      subst this
      exact core _ (CV (o:=⟨dst,op,ty,pos,after,some (j,Bb)⟩) rfl ht hv1) hx
     |false=>
      have:=hv2.2 rfl
      grind [Region.wanted,yielded,xS]
    |_=>exact hw'.elim
  |iP vs=>
   rw[hlk]at hw'
   cases vs with
   |cons _ _=>exact hw'.elim
   |nil=>
    obtain⟨v,hv1,hv2⟩:=I0 h (t:=t) (by grind)
    rw[hlk]at hv2
    obtain⟨ys,rfl,_⟩:=hv2
    have hwt:Region.wanted ⟨dst,op,ty,pos,after,some (j,Bb)⟩ (yielded ops a.tmps)=false:=by
     unfold Region.wanted
     simp only[xS ht,hv1]
     rfl
    exact GL hwt (skip h hw')
  |_=>rw[hlk]at hw';exact hw'.elim
end
end Go.AB
end
