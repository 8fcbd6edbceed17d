/- A part of the proof: Ab15r, Ab15s, Ab14b, Ab15u, Ab16. -/
import Derived.Test.YtkeagffgdajggaaGreatNu6
import Derived.Test.YtkeagffgdajggaaGreatNu5
import Derived.Lib.Builder
import Derived.Tactics
import Derived.Scope
set_option linter.unusedSimpArgs false
set_option linter.unusedVariables false
section
namespace Go.AB
open Go
section
variable{P:Program}{G G':Gh}{n:Nat}{D:List Deferred}{E:St}{a:Act}{w w':World}
theorem Bk{t t' ty e:TypeId}(ht:P.underlying t=some (.slice e)){sz m k cap:Nat}(hs:c8 P e sz=true){R:Nat->Nat}{ds:List AV}{v:Value}{news:List Value}(h:ub P w R sz m ds v news){base:Option Addr}{w':World}
 (hst:∀ad,base=some ad->(storeCells ad (news.take (min m k*sz))).run P w=.ok () w')(Wj:base=none->w'=w):
 (Builtin.copy_ #[t,t'] ty #[.slice base k cap,v]).run P w=.ok (.int .i64 (min m k:Nat)) w':=by
 have h1:=h.lenOf w
 have h2:=h.first (min m k) (Nat.min_le_left _ _) w rfl
 cases base with
 |none=>
  have:=Wj rfl
  subst this
  simp[Builtin.copy_,run_underlying ht,run_sizeOf hs,h1,h2,goInt]
 |some ad=>
  have h3:=hst ad rfl
  simp[Builtin.copy_,run_underlying ht,run_sizeOf hs,h1,h2,h3,goInt]
theorem TZ(h:Inv G n D E a w){op:Op}{ty:TypeId}{sz:Nat}{x y:IX}{d:Option Nat}{K:St->Prop}(hd:bp n d=true)(hc:ao P op ty (.gN sz x y)=true)(hw:jf P (.gN sz x y) d E K):ri P G n D w a op ty d K:=by
 cases op<;>first|(simp[ao]at hc;done)|skip
 rename_i c
 simp only[ao]at hc
 split at hc<;>try(cases hc;done)
 rename_i u v t t' hb
 have hce:=ss hb
 subst hce
 simp only[Bool.and_eq_true]at hc
 obtain⟨⟨hu,hv⟩,hc⟩:=hc
 split at hc<;>try(cases hc;done)
 rename_i e ht
 have ht:=dw ht
 have hw':yQ sz E d K (E.x x) (ur E.s sz (E.x y)):=hw
 have hbx:=XR.aN h hu
 generalize E.x x=xv at hw' hbx
 cases hsv:ur E.s sz (E.x y)with
 |none=>rw[hsv]at hw';unfold yQ at hw';split at hw'<;>first|(rename_i hh;cases hh;done)|exact hw'.elim
 |some md=>
 obtain⟨m,ds⟩:=md
 rw[hsv]at hw'
 obtain⟨news,eO⟩:=HX (P:=P) h hv hsv
 unfold yQ at hw'
 split at hw'<;>try(exact hw'.elim)
 rename_i b off k cap _ _ he0
 injection he0 with he0;injection he0 with e1 e2;subst e1;subst e2
 rcases hw' with⟨I1,hk⟩|⟨cJ,hk⟩
 ·intro pos after gd next Q hn
  refine aX (w':=w) (v:=.int .i64 0) ?_ (hn G _ _ _ (h.PT hd rfl (.int _ _) rfl) (ax.refl G w) hk)
  rcases VR.cd hbx with e1|⟨rfl,rfl,e1⟩
  ·have b7:=Bk (ty:=ty) (t':=t') (w:=w) ht hc eO (base:=some ⟨b,off,none⟩) (k:=k) (cap:=cap) (w':=w) (fun ad _=>by rw[I1];simp;rfl) (fun hh=>by cases hh)
   rw[I1]at b7
   simp[execOp,resolve,invoke,builtin,e1,b7]
  ·have b7:=Bk (ty:=ty) (t':=t') (w:=w) ht hc eO (base:=none) (k:=0) (cap:=0) (w':=w) (fun ad hh=>by cases hh) (fun _=>rfl)
   simp at b7
   simp[execOp,resolve,invoke,builtin,e1,b7]
 ·obtain⟨cs,hsb,dL⟩:=CF cJ
  rw[hsb]at hk
  have hk':K ({E with s:=E.s.set b (.cells (setAt cs off (ds.take (min m k*sz))))}.put d (.int .i64 (min m k:Nat))):=hk
  obtain⟨_,_,c,et,hcb,hcr,hcf⟩:=h.store b _ hsb
  have ahc:min m k*sz<=m*sz:=Nat.mul_le_mul_right _ (Nat.min_le_left _ _)
  have amq:min m k*sz<=k*sz:=Nat.mul_le_mul_right _ (Nat.min_le_right _ _)
  have hl1:(ds.take (min m k*sz)).length=min m k*sz:=by simp[eO.zn,ahc]
  have hl2:(news.take (min m k*sz)).length=min m k*sz:=by simp[eO.len,ahc]
  rcases VR.cd hbx with e1|⟨rfl,rfl,e1⟩
  ·obtain⟨h2,hp2⟩:=h.zF (off:=off) (ds:=ds.take (min m k*sz)) (news:=news.take (min m k*sz)) hsb hcb (by rw[hl1,hl2]) (by rw[hl1];omega) (fun c hc=>eO.fl c (List.mem_of_mem_take hc))
    (by
      have:=eO.vw
      unfold views at this⊢
      rw[List.map_take,this]) (fun j x y hx hy=>by
      rw[List.getElem?_take]at hx hy
      split at hx
      ·rename_i hj;rw[if_pos hj]at hy;exact eO.od j x y hx hy
      ·cases hx)
   have Wc:off+(news.take (min m k*sz)).length<=c.size:=by rw[hl2,hcr.1];omega
   have hst:=eh (P:=P) b off et (0,0) (news.take (min m k*sz)) 0 c w hcb (fun j _ hj=>by simp at hj) (by simpa using Wc) (fun u hu=>eO.one u (List.mem_of_mem_take hu))
   have b7:=Bk (ty:=ty) (t':=t') (w:=w) ht hc eO (base:=some ⟨b,off,none⟩) (k:=k) (cap:=cap) (w':=w.setRow b (laid c off (news.take (min m k*sz)))) (fun ad had=>by injection had with had;subst had;simpa[laid]using hst) (fun hh=>by cases hh)
   intro pos after gd next Q hn
   refine aX ?_ (hn G _ _ _ (h2.PT hd rfl (.int _ _) rfl) hp2 hk')
   simp[execOp,resolve,invoke,builtin,e1,b7]
  ·have h0:min m 0=0:=Nat.min_zero m
   rw[h0,Nat.zero_mul,List.take_zero,CJ,pY hsb]at hk'
   have b7:=Bk (ty:=ty) (t':=t') (w:=w) ht hc eO (base:=none) (k:=0) (cap:=0) (w':=w) (fun ad hh=>by cases hh) (fun _=>rfl)
   intro pos after gd next Q hn
   refine aX (w':=w) ?_ (hn G _ _ _ (h.PT hd rfl (.int .i64 (0:Nat)) rfl) (ax.refl G w) hk')
   simp at b7
   simp[execOp,resolve,invoke,builtin,e1,b7]
theorem QV(h:Inv G n D E a w){op:Op}{ty:TypeId}{z:List AV}{x:IX}{d:Option Nat}{K:St->Prop}(hd:bp n d=true)(hc:ao P op ty (.mo z x)=true)(hw:jf P (.mo z x) d E K):ri P G n D w a op ty d K:=by
 cases op<;>first|(simp[ao]at hc;done)|skip
 rename_i c
 simp only[ao]at hc
 split at hc<;>try(cases hc;done)
 rename_i u us t ts hb
 have hce:=ss hb
 subst hce
 simp only[Bool.and_eq_true]at hc
 obtain⟨hu,hc⟩:=hc
 split at hc<;>try(cases hc;done)
 rename_i e ht
 have ht:=dw ht
 have hw':wV z E d K (E.x x):=hw
 have hbx:=XR.aN h hu
 generalize E.x x=xv at hw' hbx
 unfold wV at hw'
 split at hw'<;>try(exact hw'.elim)
 rename_i b off k cap
 obtain⟨v,hv1,_,hv2⟩:=wO hc
 obtain⟨z1,z2,z3',z4,z5⟩:=hv2 k
 have z3:∀(j:Nat)(x:AV)(y:Value),(List.replicate k z).flatten[j]? =some x->(Builtin.zeroCells v.cells k).toList[j]? =some y->VR w G.R x y:=fun j x y hx hy=>uH (z3' j x y hx hy) w G.R
 rcases hw' with⟨hk0,hk⟩|⟨cJ,hvw,hk⟩
 ·subst hk0
  intro pos after gd next Q hn
  refine aX (w':=w) (v:=.tuple #[]) ?_ (hn G _ _ _ (h.adR hd) (ax.refl G w) hk)
  rcases VR.cd hbx with e1|⟨_,rfl,e1⟩<;>simp[execOp,resolve,invoke,builtin,e1,Builtin.clear_,run_underlying ht]
 ·obtain⟨cs,hsb,dL⟩:=CF cJ
  rw[hsb]at hk
  have hk':K ({E with s:=E.s.set b (.cells (setAt cs off (List.replicate k z).flatten))}.put d (.gw [])):=hk
  obtain⟨_,_,c,et,hcb,hcr,hcf⟩:=h.store b _ hsb
  by_cases hk0:k=0
  ·subst hk0
   simp only[List.replicate_zero,List.flatten_nil,CJ,pY hsb]at hk'
   intro pos after gd next Q hn
   refine aX (w':=w) (v:=.tuple #[]) ?_ (hn G _ _ _ (h.adR hd) (ax.refl G w) hk')
   rcases VR.cd hbx with e1|⟨_,rfl,e1⟩<;>simp[execOp,resolve,invoke,builtin,e1,Builtin.clear_,run_underlying ht]
  ·rcases VR.cd hbx with e1|⟨h0,_,_⟩
   ·obtain⟨h2,hp2⟩:=h.zF (off:=off) (ds:=(List.replicate k z).flatten) (news:=(Builtin.zeroCells v.cells k).toList) hsb hcb (by rw[z1,z2]) (by rw[z2];exact dL) z4
     (by
       unfold views
       rw[List.map_flatten,List.map_replicate]
       unfold views at hvw
       rw[hvw]) z3
    have hst:=eh (P:=P) b off et (0,0) (Builtin.zeroCells v.cells k).toList 0 c w hcb (fun j _ hj=>by simp at hj) (by rw[z1,hcr.1];simpa using dL) z5
    have Wr:(storeCells ⟨b,off,none⟩ (Builtin.zeroCells v.cells k).toList).run P w=.ok () (w.setRow b (laid c off (Builtin.zeroCells v.cells k).toList)):=by simpa[laid]using hst
    intro pos after gd next Q hn
    refine aX (v:=.tuple #[]) ?_ (hn G _ _ _ (h2.adR hd) hp2 hk')
    have b7:(Builtin.clear_ (t::ts).toArray ty (Array.map a.eval (u::us).toArray)).run P w=.ok (.tuple #[]) (w.setRow b (laid c off (Builtin.zeroCells v.cells k).toList)):=by
     obtain⟨k',rfl⟩:∃k',k=k'+1:=⟨k -1,by omega⟩
     simp[Builtin.clear_,run_underlying ht,e1,hv1,Wr]
    simp[execOp,resolve,invoke,builtin]at b7⊢;simp[b7]
   ·exact absurd h0 hk0
end
end Go.AB
end
section
namespace Go.AB
open Go
section
variable{P:Program}{G G':Gh}{n:Nat}{D:List Deferred}{E:St}{a:Act}{w w':World}
theorem Inv.frozen(h:Inv G n D E a w){d:Option Nat}(hd:bp n d=true){b off sz k cap:Nat}{cs:List AV}{own:Bool}(hs:E.s b=some (.cells cs))(dL:off+k*sz<=cs.length)(gZ:k<=cap)(ug:own=true->off=0/\cs.length=off+cap*sz):
 ∃G',Inv G' n D ({E with s:=E.s.del b}.put d (.sl own sz k (views (AB.sub cs off (k*sz))))) (a.put d (.slice (some ⟨b,off,none⟩) k cap)) w/\ax G w G' w:=by
 obtain⟨q2,q3,c,t,q4,q5,q6⟩:=h.store b _ hs
 let ob:cS:=if own=true then RG d else .none
 let G':=G.sk b ob (off+k*sz)
 have bw:ax G w G' w:=⟨rfl,rfl,rfl,Nat.le_refl _,Nat.le_refl _,fun b' _=>by
  by_cases hb:b'=b
  ·subst hb;rw[q3];exact Nat.zero_le _
  ·simp[G',hb],fun _ _ _ _=>rfl,fun _ _ _=>rfl,fun b' _ hb'=>by
  have:b'≠b:=fun e=>by subst e;rw[q2]at hb';cases hb'
  simp[G',this,hb'],fun b' _ hb'=>by
  have:b'≠b:=fun e=>by subst e;rw[q2]at hb';cases hb'
  simp[G',this,hb']⟩
 have hlt:b<w.heap.size:=h.aS.lt (by rw[q2];simp)
 have nt:b9 G' w:=⟨fun b' hb'=>by
  have:b'≠b:=by omega
  simp[G',this,h.aS.jM b' hb'],fun b' hb'=>by
  have:b'≠b:=by omega
  simp[G',this,h.aS.jU b' hb']⟩
 have same:∀b',G.O b'≠.sh\/b'≠b->G'.O b'=G.O b'/\G'.R b'=G.R b'/\w.heap[b']? =w.heap[b']? :=fun b' hb'=>by
  have:b'≠b:=by
   rcases hb' with hb'|hb'
   ·exact fun e=>by subst e;exact hb' q2
   ·exact hb'
  exact⟨by simp[G',this],by simp[G',this],rfl⟩
 have hst:aP G' w (E.s.del b):=by
  intro b' o hb'
  unfold ab.del at hb'
  split at hb'
  ·cases hb'
  ·rename_i hne
   obtain⟨r1,r2,r3⟩:=h.store b' o hb'
   refine⟨(same b' (.inr hne)).1.trans r1,(same b' (.inr hne)).2.1.trans r2,?_⟩
   cases o with
   |cells cs'=>
    obtain⟨c',t',r4,r5,r6⟩:=r3
    exact⟨c',t',r4,r5.mono (fun _ _ hv=>bw.vr h.aS hv) (fun b'' j ns=>by
     obtain⟨x1,x2,x3⟩:=same b'' (.inl (by rw[ns];simp))
     exact⟨x1.trans ns,x2,x3⟩),r6⟩
   |map es=>
    obtain⟨iu,clock,r4,r5,r6⟩:=r3
    exact⟨iu,clock,r4,r5,fun j x y hx hy=>⟨bw.vr h.aS (r6 j x y hx hy).1,bw.vr h.aS (r6 j x y hx hy).2⟩⟩
 have hat:=h.store.at hs dL
 obtain⟨u,u1,u2,u3⟩:=hat
 have hlen:(views (AB.sub cs off (k*sz))).length=k*sz:=by simp only[views,List.length_map];exact j7 dL
 have:=h.put (s':=E.s.del b) (lp':=E.lp) d (fun i hi=>by subst hi;simpa[bp]using hd) (.sl own sz k (views (AB.sub cs off (k*sz)))) (.slice (some ⟨b,off,none⟩) k cap) nt bw hst (fun _ hx=>hx) (fun i t _ ht=>ht.elim) (fun i t _⟨cs',DK⟩=>by cases DK)
  (fun i b' _ hb'=>same b' (.inl (by rcases hb' with⟨j,hb'⟩|hb'<;>rw[hb']<;>simp)))
  (fun i b' c' j _ _ hc'=>by
    obtain⟨x1,x2,x3⟩:=same c' (.inl (by rw[hc'];simp))
    exact⟨x1.trans hc',x2,x3⟩)
  (fun i hi=>by
    subst hi
    refine⟨.sl own sz k _ b off cap u u3 hlen (by rw[hlen];simp[G']) gZ u1 (fun j x hj=>bw.vr h.aS (u2 j x hj)),?_⟩
    cases own with
    |false=>trivial
    |true=>
     intro base m' dn hv _
     injection hv with e1 e2 e3
     subst e3
     exact⟨b,off,c,t,(0,0),e1.symm,by simp[G',ob,RG],by simp[G'],q4,by rw[q5.1,(ug rfl).2],fun j _ hj=>by simp at hj,Nat.le_refl _,(ug rfl).1,.inl rfl,fun j y _ hy=>by
      have hlt:j<cs.length:=by rw[<-q5.1];exact(Array.getElem?_eq_some_iff.1 hy).1
      exact rZ (q6 _ (List.getElem_mem hlt)) (q5.2 j _ y (List.getElem?_eq_getElem hlt) hy).1⟩)
 exact⟨G',by cases d<;>exact this,bw⟩
theorem Inv.VZ(h:Inv G n D E a w){sz:Nat}{own:Bool}{d:Option Nat}{K:St->Prop}(hd:bp n d=true){xv:AV}{v:Value}(hbx:dt xv=true->VR w G.R xv v)(hw':DJ sz own E d K xv):∃(G':Gh)(E':St),Inv G' n D E' (a.put d v) w/\ax G w G' w/\K E':=by
 unfold DJ at hw'
 split at hw'<;>try(exact hw'.elim)
 rename_i b off k cap
 replace hbx:=hbx rfl
 have empty:k=0->cap=0->off=0\/v=.slice none 0 0->Inv G n D (E.put d (.sl own sz 0 [])) (a.put d (v)) w:=by
  intro hk0 hc0 akT
  subst hk0;subst hc0
  have hvr:VR w G.R (.sl own sz 0 []) (v):=by
   rcases VR.cd hbx with e1|⟨_,_,e1⟩
   ·rcases akT with rfl|e2
    ·rw[e1];exact .sl own sz 0 [] b 0 0 (fun _=>undef) Fl.nil (by simp) (by simp) (Nat.le_refl _) (fun j c hj=>by simp at hj) (fun j c hj=>by simp at hj)
    ·rw[e2];exact .slnil _ _
   ·rw[e1];exact .slnil _ _
  have:=h.put (s':=E.s) (lp':=E.lp) d (fun i hi=>by subst hi;simpa[bp]using hd) (.sl own sz 0 []) (v) h.aS (ax.refl G w) h.store (fun _ hx=>hx) (fun i t _ ht=>ht.elim) (fun i t _⟨cs,hcs⟩=>by cases hcs)
   (fun _ _ _ _=>⟨rfl,rfl,rfl⟩) (fun _ _ _ _ _ _ hcc=>⟨hcc,rfl,rfl⟩) (fun i hdi=>by
     refine⟨hvr,?_⟩
     cases own with
     |false=>trivial
     |true=>
      intro base m' dn hv hc'
      rcases VR.cd hbx with e1|⟨_,_,e1⟩<;>rw[e1]at hv<;>injection hv with _ e2 e3<;>omega)
  cases d<;>exact this
 rcases hw' with⟨rfl,rfl,rfl,hk⟩|⟨oF,gZ,ug,hk⟩
 ·exact⟨G,_,empty rfl rfl (.inl rfl),ax.refl G w,hk⟩
 ·cases hca:j5 k sz off (E.s b)with
  |none=>rw[hca]at hk;exact hk.elim
  |some q=>
   obtain⟨q1,q2⟩:=q
   rw[hca]at hk
   obtain⟨cs,e1,e2,rfl,rfl⟩:=sw hca
   have F0:own=true->off=0/\cs.length=off+cap*sz:=fun ho=>by
    have:=(ug ho).2.2
    rw[e1]at this
    exact⟨(ug ho).1,this⟩
   obtain⟨G',h1,h2⟩:=h.frozen hd (own:=own) e1 e2 gZ F0
   have e3:=VR.sJ hbx oF
   exact⟨G',_,by rw[e3];exact h1,h2,hk⟩
theorem Y7(h:Inv G n D E a w){op:Op}{ty:TypeId}{sz:Nat}{own:Bool}{x:IX}{d:Option Nat}{K:St->Prop}(hd:bp n d=true)(hc:ao P op ty (.T7 sz own x)=true)(hw:jf P (.T7 sz own x) d E K):ri P G n D w a op ty d K:=by
 have key:∀y,bJ y x=true->∃(G':Gh)(E':St),Inv G' n D E' (a.put d (a.eval y)) w/\ax G w G' w/\K E':=by
  intro y hy
  have hbx:=XR.aN h hy
  have hw':DJ sz own E d K (E.x x):=hw
  generalize E.x x=xv at hw' hbx
  refine h.VZ hd (fun hi=>?_) hw'
  cases xv<;>first|exact hbx|(simp[dt]at hi)
 intro pos after g next Q hn
 cases op<;>first|(simp[ao]at hc;done)|skip
 all_goals
  rename_i y
  obtain⟨G',E',h1,h2,hk⟩:=key y hc
  exact aX rfl (hn G' _ _ _ h1 h2 hk)
theorem T1(h:Inv G n D E a w){op:Op}{ty:TypeId}{sz:Nat}{own:Bool}{x:IX}{d:Option Nat}{K:St->Prop}(hd:bp n d=true)(hc:ao P op ty (.yq sz own x)=true)(hw:jf P (.yq sz own x) d E K):ri P G n D w a op ty d K:=by
 cases op<;>first|(simp[ao]at hc;done)|skip
 rename_i t y
 simp only[ao,Bool.and_eq_true]at hc
 obtain⟨⟨hs,hm⟩,hy⟩:=hc
 have hb:=BR.aN h hy
 have hw':MC sz own E d K (rd E (xg true E x) 1):=hw
 cases hr:rd E (xg true E x) 1 with
 |none=>rw[hr]at hw';exact hw'.elim
 |some cs=>
  rw[hr]at hw'
  obtain⟨b,off,e,hl,hat,hvw⟩:=Hv h hb hr
  match cs,hl,hw' with
  |[c],hl,⟨hi,hw'⟩=>
   obtain⟨v,b7,hvr⟩:=qN hs hm rfl hl hat
   obtain⟨G',E',h1,h2,hk⟩:=h.VZ hd (v:=v) (fun _=>hvr) hw'
   intro pos after g next Q hn
   exact aX (w':=w) (by simp[execOp,e,Instr.loadAt,Instr.sureAddr,b7]) (hn G' _ _ _ h1 h2 hk)
theorem HO(h:Inv G n D E a w)(bl off:Nat)(T:cS)(hT:T≠.sh/\(∀i,T≠.loc i)/\(∀i j,T≠.cell i j)):
 b9 (G.kV (.cell bl off) T) w/\ax G w (G.kV (.cell bl off) T) w/\(∀b,G.O b≠.cell bl off->(G.kV (.cell bl off) T).O b=G.O b):=by
 have hne:∀b,G.O b≠.cell bl off->(G.kV (.cell bl off) T).O b=G.O b:=fun b hb=>by simp[hb]
 exact⟨⟨fun b hb=>by rw[hne b (by rw[h.aS.jM b hb];simp),h.aS.jM b hb],h.aS.jU⟩,
  ⟨rfl,rfl,rfl,Nat.le_refl _,Nat.le_refl _,fun _ _=>Nat.le_refl _,fun _ _ _ _=>rfl,fun _ _ _=>rfl,fun b _ hb=>⟨by rw[hne b (by rw[hb];simp),hb],rfl⟩,fun b _ hb=>⟨by rw[hne b (by rw[hb];simp),hb],rfl⟩⟩,hne⟩
theorem dm.kV{o T:cS}{av:AV}{v:Value}(h:dm G w o av v):dm (G.kV o T) w T av v:=by
 unfold dm at h⊢
 split
 ·rename_i sz m cs
  intro base m' cap hv hc
  obtain⟨b,off,c,e,fz,q1,q2,q3⟩:=h base m' cap hv hc
  exact⟨b,off,c,e,fz,q1,by simp[q2],q3⟩
 ·rename_i e m cs
  intro base m' cap hv hc
  obtain⟨b,off,c,fz,q1,q2,q3⟩:=h base m' cap hv hc
  exact⟨b,off,c,fz,q1,by simp[q2],q3⟩
 ·trivial
def I3:AV->Bool
 |.sl _ _ _ _=>true
 |.bb _ _ _=>true
 |_=>false
theorem KH{av:AV}(h:I3 av=true):ry (view av)=true:=by cases av<;>first|rfl|(cases h;done)
theorem du.take{bl off:Nat}{T:cS}{cs:List AV}{c:Array Value}{av:AV}(h:du G w (.cell bl) cs c)(hcs:cs[off]? =some av):
 du (G.kV (.cell bl off) T) w (.cell bl) (setAt cs off [view av]) c:=by
 have hlt:off+1<=cs.length:=(List.getElem?_eq_some_iff.1 hcs).1
 refine⟨by rw[mL _ _ _ (by simpa using hlt)];exact h.1,fun j x y hx hy=>?_⟩
 rw[oY _ _ _ _ (by simpa using hlt)]at hx
 by_cases hj:j=off
 ·subst hj
  rw[if_pos ⟨Nat.le_refl _,by simp⟩,Nat.sub_self]at hx
  injection hx with hx;subst hx
  exact⟨(h.2 j _ y hcs hy).1.view,dm.view ..⟩
 ·rw[if_neg (by simp;omega)]at hx
  obtain⟨h1,h2⟩:=h.2 j x y hx hy
  refine⟨h1,h2.mono fun b hb=>⟨?_,rfl,rfl⟩⟩
  have:G.O b≠.cell bl off:=by rw[hb];intro e;injection e with _ e;exact hj e
  rw[Gh.aau,if_neg this,hb]
def loadT:Option Nat->cS
 |some i=>.slot i 0
 |none=>.frame
theorem Ko(h:Inv G n D E a w){op:Op}{ty:TypeId}{x:IX}{d:Option Nat}{K:St->Prop}(hd:bp n d=true)(hc:ao P op ty (.jh x)=true)(hw:jf P (.jh x) d E K):ri P G n D w a op ty d K:=by
 cases op<;>first|(simp[ao]at hc;done)|skip
 rename_i t y
 simp only[ao,Bool.and_eq_true]at hc
 obtain⟨⟨⟨_,hs⟩,hm⟩,hy⟩:=hc
 have hbx:=XR.aN h hy
 have hw':pL E d K (E.x x):=hw
 have hT:loadT d≠.sh/\(∀i,loadT d≠.loc i)/\(∀i j,loadT d≠.cell i j):=by cases d<;>simp[loadT]
 have b7:∀(b off:Nat)(u:Value),a.eval y=.pointer (some ⟨b,off,none⟩)->w.cell? ⟨b,off,none⟩=some u->∀(pos:String)(after:Array Edge)(g:Option (Nat×Bool)),(execOp a.eval ⟨d,.load t y,ty,pos,after,g⟩).run P w=.ok (.value u) w:=by
  intro b off u e1 e2 pos after g
  have:(loadVar t ⟨b,off,none⟩).run P w=.ok u w:=by simp[loadVar,xl hm,e2]
  simp[execOp,e1,Instr.loadAt,Instr.sureAddr,this]
 have ah8:∀{G1:Gh}{σ1:St}{av:AV}{u:Value},I3 av=true->Inv G1 n D σ1 a w->VR w G1.R av u->dm G1 w (loadT d) av u->Inv G1 n D (σ1.put d av) (a.put d u) w:=by
  intro G1 σ1 av u hsl h1 hv ho
  have hiv:dt av=true:=by cases av<;>first|rfl|(cases hsl;done)
  have:=h1.put (s':=σ1.s) (lp':=σ1.lp) d (fun i hi=>by subst hi;simpa[bp]using hd) av u h1.aS (ax.refl G1 w) h1.store (fun _ hx=>hx) (fun i t _ ht=>(eQ hiv t ht).elim) (fun i t _⟨cs,hcs⟩=>(oM hiv cs hcs).elim)
   (fun _ _ _ _=>⟨rfl,rfl,rfl⟩) (fun _ _ _ _ _ _ hcc=>⟨hcc,rfl,rfl⟩) (fun i hdi=>by subst hdi;rw[dg.qP hiv];exact⟨hv,ho⟩)
  cases d<;>exact this
 have Yl:∀{off:Nat}{cs:List AV}{k:List AV->AV->Prop},si off cs k->∃av,I3 av=true/\cs[off]? =some av/\k (setAt cs off [view av]) av:=by
  intro off cs k hk
  unfold si at hk
  split at hk
  ·rename_i ow sz m ds he;exact⟨_,rfl,he,hk⟩
  ·rename_i t m ds he;exact⟨_,rfl,he,hk⟩
  ·exact hk.elim
 have Ym:∀{off:Nat}{cs:List AV}{k:List AV->AV->Prop},qy off cs k->∃av,I3 av=true/\cs[off]? =some av/\k (setAt cs off [view av]) av:=by
  intro off cs k hk
  unfold qy at hk
  split at hk
  ·rename_i ow sz m ds he;exact⟨_,rfl,he,hk⟩
  ·exact hk.elim
 generalize E.x x=xv at hw' hbx
 unfold pL at hw'
 split at hw'<;>try(exact hw'.elim)
 ·rename_i b off
  have e1:=VR.iQ hbx
  cases hsb:E.s b with
  |none=>rw[hsb]at hw';exact hw'.elim
  |some so=>
   cases so with
   |map es=>rw[hsb]at hw';exact hw'.elim
   |cells cs=>
   rw[hsb]at hw'
   obtain⟨av,hsl,hcs,hk⟩:=Yl hw'
   obtain⟨q2,q3,c,et,q4,q5,q6⟩:=h.store b _ hsb
   have hlt:off<cs.length:=(List.getElem?_eq_some_iff.1 hcs).1
   have ac0:off<c.size:=by rw[q5.1];exact hlt
   have dy:=Array.getElem?_eq_getElem ac0
   obtain⟨hv,ho⟩:=q5.2 off _ _ hcs dy
   obtain⟨g1,g2,hne⟩:=HO h b off (loadT d) hT
   have hst:aP (G.kV (.cell b off) (loadT d)) w (E.s.set b (.cells (setAt cs off [view av]))):=by
    intro b' o hb'
    unfold ab.set at hb'
    by_cases hbg:b'=b
    ·rw[if_pos hbg]at hb';injection hb' with hb';subst hb';subst hbg
     exact⟨by rw[hne b' (by rw[q2];simp),q2],q3,c,et,q4,q5.take hcs,CW.setAt q6 (by intro z hz;rw[List.mem_singleton]at hz;subst hz;exact KH hsl) off⟩
    ·rw[if_neg hbg]at hb'
     obtain⟨r1,r2,r3⟩:=h.store b' o hb'
     refine⟨by rw[hne b' (by rw[r1];simp),r1],r2,?_⟩
     cases o with
     |cells cs'=>
      obtain⟨c0,t0,r4,r5,r6⟩:=r3
      exact⟨c0,t0,r4,r5.mono (fun _ _ hv=>hv) (fun b'' j ns=>⟨by rw[hne b'' (by rw[ns];intro e;injection e with e _;exact hbg e),ns],rfl,rfl⟩),r6⟩
     |map es=>exact r3
   have h1:Inv (G.kV (.cell b off) (loadT d)) n D {E with s:=E.s.set b (.cells (setAt cs off [view av]))} a w:=
    ⟨g1,hst,h.size,fun k v hkv=>dg.frame (G:=G) (G':=G.kV (.cell b off) (loadT d)) (w:=w) (w':=w) (tmps:=a.tmps) (Tw:=a.tmps) (fun _ _ hv=>hv) (fun b' hb'=>⟨hne b' (by rcases hb' with⟨j,hb'⟩|hb'<;>rw[hb']<;>simp),rfl,rfl⟩)
      (fun b' c' j hb' hc'=>⟨by rw[hne c' (by rw[hc'];intro e;injection e with e _;subst e;rw[q2]at hb';cases hb'),hc'],rfl,rfl⟩) _ _ (fun d _ cs hcs=>⟨cs,hcs,rfl⟩) (h.ch k v hkv),h.IT,h.Qs,h.ue⟩
   intro pos after g next Q hn
   exact aX (b7 b off _ e1 (by rw[cell_of_row w q4,dy]) pos after g) (hn _ _ _ _ (ah8 hsl h1 hv ho.kV) g2 hk)
 ·rename_i i off
  cases hl:look E.e i<;>rw[hl]at hw'<;>first|exact hw'.elim|skip
  rename_i cs
  obtain⟨hdi,hw'⟩:=hw'
  obtain⟨av,hsl,hcs,hk⟩:=Ym hw'
  obtain⟨b,e1,e2⟩:=hbx
  have htm:=e2 cs hl
  have Db:=h.ch i _ htm
  rw[hl]at Db
  obtain⟨b',c,et,p1,p2,p3,p4,p5,p6⟩:=Db
  injection p1 with p1;injection p1 with p1;injection p1 with p1 _ _
  subst p1
  have hlt:off<cs.length:=(List.getElem?_eq_some_iff.1 hcs).1
  have ac0:off<c.size:=by rw[p5.1];exact hlt
  have dy:=Array.getElem?_eq_getElem ac0
  obtain⟨hv,ho⟩:=p5.2 off _ _ hcs dy
  obtain⟨g1,g2,hne⟩:=HO h b off (loadT d) hT
  have hst:aP (G.kV (.cell b off) (loadT d)) w E.s:=h.store.mono h.aS g2 (fun b' hb'=>⟨by rw[hne b' (by rw[hb'];simp),hb'],rfl,rfl⟩)
   (fun b' c' j hb' hc'=>⟨by rw[hne c' (by rw[hc'];intro e;injection e with e _;subst e;rw[p2]at hb';cases hb'),hc'],rfl,rfl⟩)
  have h1:Inv (G.kV (.cell b off) (loadT d)) n D (E.put (some i) (.loc (setAt cs off [view av]))) a w:=by
   refine⟨g1,hst,h.size,fun k v hkv=>?_,fun k hk'=>?_,fun k d' hk'=>?_,h.ue⟩
   ·by_cases hki:i=k
    ·subst hki
     have:look (E.put (some i) (.loc (setAt cs off [view av]))).e i=.loc (setAt cs off [view av]):=by simp[St.put,aM]
     rw[this]
     rw[htm]at hkv;injection hkv with hkv;subst hkv
     exact⟨b,c,et,rfl,by rw[hne b (by rw[p2];simp),p2],p3,p4,p5.take hcs,Fl.setAt p6 (by intro z hz;rw[List.mem_singleton]at hz;subst hz;exact KH hsl) off⟩
    ·have:look (E.put (some i) (.loc (setAt cs off [view av]))).e k=look E.e k:=by simp[St.put,aM,hki]
     rw[this]
     refine dg.frame (G:=G) (G':=G.kV (.cell b off) (loadT d)) (w:=w) (w':=w) (tmps:=a.tmps) (Tw:=a.tmps) (fun _ _ hv=>hv) (fun b' hb'=>⟨hne b' (by rcases hb' with⟨j,hb'⟩|hb'<;>rw[hb']<;>simp),rfl,rfl⟩)
      (fun b' c' j hb' hc'=>⟨by rw[hne c' (by rw[hc'];intro e;injection e with e _;subst e;rw[p2]at hb';injection hb' with hb';exact hki hb'),hc'],rfl,rfl⟩) _ _ (fun d' _ cs' DK=>?_) (h.ch k v hkv)
     by_cases hdi':i=d'
     ·subst hdi';exact⟨cs,hl,rfl⟩
     ·simp only[St.put,aM,hdi',if_false]at DK
      exact⟨cs',DK,rfl⟩
   ·by_cases hki:i=k
    ·subst hki
     have:=h.IT i hk'
     rw[hl]at this;cases this
    ·simp only[St.put,aM,hki,if_false];exact h.IT k hk'
   ·by_cases hki:i=k
    ·subst hki
     simp only[St.put,aM,if_true]at hk'
     exact hk'.elim
    ·simp only[St.put,aM,hki,if_false]at hk'
     exact h.Qs k d' hk'
  intro pos after g next Q hn
  exact aX (b7 b off _ e1 (by rw[cell_of_row w p4,dy]) pos after g) (hn _ _ _ _ (ah8 hsl h1 hv ho.kV) g2 hk)
theorem T0(h:Inv G n D E a w){op:Op}{ty:TypeId}{off:Nat}{j x:IX}{d:Option Nat}{K:St->Prop}(hd:bp n d=true)(hc:ao P op ty (.oq off j x)=true)(hw:jf P (.oq off j x) d E K):ri P G n D w a op ty d K:=by
 have hc':ao P op ty (.jh x)=true:=by cases op<;>first|exact hc|(cases hc;done)
 exact Ko h hd hc' hw.2
theorem Y6(h:Inv G n D E a w){op:Op}{ty:TypeId}{ne:Bool}{x:IX}{d:Option Nat}{K:St->Prop}(hd:bp n d=true)(hc:ao P op ty (.YE ne x)=true)(hw:jf P (.YE ne x) d E K):ri P G n D w a op ty d K:=by
 cases op<;>first|(simp[ao]at hc;done)|skip
 rename_i b t u v yt
 simp only[ao,Bool.and_eq_true,decide_eq_true_eq]at hc
 obtain⟨⟨⟨rfl,hx⟩,hy⟩,ht⟩:=hc
 cases hel:dp P t with
 |none=>rw[hel]at ht;cases ht
 |some e=>
 have ht:=dw hel
 have e2:a.eval v=.slice none 0 0:=by
  split at hy
  ·rfl
  ·cases hy
 have hbx:=XR.aN h hx
 have hw':T3 ne E d K (E.x x):=hw
 generalize E.x x=xv at hw' hbx
 have some_:∀(ad:Addr)(l c:Nat),a.eval u=.slice (some ad) l c->K (E.put d (.bool ne))->ri P G n D w a (.binOp (if ne=true then .neq else .eql) t u v yt) ty d K:=by
  intro ad l c e1 hk pos after g next Q hn
  have hr:(Op.equal t (.slice (some ad) l c) (.slice none 0 0)).run P w=.ok false w:=Bl 9999 ht ad l c
  refine aX (v:=.bool ne) ?_ (hn G _ _ _ (h.PT hd rfl (.bool _) rfl) (ax.refl G w) hk)
  cases ne<;>simp[execOp,e1,e2,eqGuard,binOp,hr]
 have none_:a.eval u=.slice none 0 0->K (E.put d (.bool !ne))->ri P G n D w a (.binOp (if ne=true then .neq else .eql) t u v yt) ty d K:=by
  intro e1 hk pos after g next Q hn
  have key:∀q:Nat,(Op.equalIn (q+1) t (.slice none 0 0) (.slice none 0 0)).run P w=.ok true w:=fun q=>by simp[Op.equalIn,run_underlying ht]
  have hr:(Op.equal t (.slice none 0 0) (.slice none 0 0)).run P w=.ok true w:=key 9999
  refine aX (v:=.bool !ne) ?_ (hn G _ _ _ (h.PT hd rfl (.bool _) rfl) (ax.refl G w) hk)
  cases ne<;>simp[execOp,e1,e2,eqGuard,binOp,hr]
 unfold T3 at hw'
 split at hw'<;>try(exact hw'.elim)
 ·rename_i ow sz m cs
  rcases VR.hZ hbx with⟨(e1|⟨_,_,_,e1⟩),rfl,_⟩|⟨b,off,cap,e1,_⟩
  ·exact none_ e1 (hw' _ fun _=>rfl)
  ·exact some_ _ _ _ e1 (hw' _ fun hh=>by cases ne<;>cases hh)
  ·exact some_ _ _ _ e1 (hw' _ fun hh=>by cases ne<;>cases hh)
 ·rename_i b off m cap
  rcases VR.cd hbx with e1|⟨_,rfl,e1⟩
  ·exact some_ _ _ _ e1 (hw' _ fun hh=>by cases ne<;>cases hh)
  ·exact none_ e1 (hw' _ fun _=>rfl)
theorem Y9(h:Inv G n D E a w){op:Op}{ty:TypeId}{f:Nat}{x y:IX}{d:Option Nat}{K:St->Prop}(hd:bp n d=true)(hc:ao P op ty (.U7 f x y)=true)(hw:jf P (.U7 f x y) d E K):ri P G n D w a op ty d K:=by
 cases op<;>first|(simp[ao]at hc;done)|skip
 rename_i c
 obtain⟨callee,ys,ats⟩:=c
 simp only[ao]at hc
 split at hc<;>try(cases hc;done)
 rename_i g
 simp only[Bool.and_eq_true,beq_iff_eq]at hc
 obtain⟨rfl,hxs⟩:=hc
 obtain⟨ys⟩:=ys
 have hys:∃u v,ys=[u,v]/\bJ u x=true/\bJ v y=true:=by
  match ys,hxs with
  |[u,v],hxs=>
   simp only[iL,Bool.and_eq_true]at hxs
   exact⟨u,v,rfl,hxs.1,hxs.2.1⟩
  |[],hxs=>cases hxs
  |[_],hxs=>simp[iL]at hxs
  |_::_::_::_,hxs=>simp[iL]at hxs
 obtain⟨u,v,rfl,hu,hv⟩:=hys
 have hbx:=XR.aN h hu
 have hby:=XR.aN h hv
 have hw':XC P f E d K (E.x x) (E.x y):=hw
 generalize E.x x=xv at hw' hbx
 generalize E.x y=yv at hw' hby
 unfold XC at hw'
 split at hw'<;>try(exact hw'.elim)
 rename_i ow sz l c0 cs0 b' o' l' cp'
 obtain⟨hov,hs2,hk⟩:=hw'
 rcases VR.hZ hbx with⟨_,h0,_⟩|⟨b,o,cp,e1,hl,hR,gZ,hat⟩
 ·cases h0
 have e2:=VR.sJ hby (Nat.succ_pos _)
 unfold cellsIn at hs2
 split at hs2<;>try(exact hs2.elim)
 rename_i ak0
 obtain⟨q0,q1',x2,t2,q1,q2,_⟩:=h.store b' _ ak0
 obtain⟨uu,dy,_,_⟩:=hat
 have hc0:=dy 0 c0 rfl
 have hblk:∃x1 t1 f1,w.heap[b]? =some (.cells x1 t1 f1)/\x1.size≠0:=by
  unfold World.cell? at hc0
  split at hc0
  ·rename_i x1 t1 f1 hh
   refine⟨x1,t1,f1,hh,fun h0=>?_⟩
   have hlt:=(Array.getElem?_eq_some_iff.1 hc0).1
   omega
  ·cases hc0
 obtain⟨x1,t1,f1,p1,p2⟩:=hblk
 have hbb:b≠b':=fun e=>by
  subst e
  rw[q1']at hR
  simp only[List.length_cons]at hR
  omega
 obtain⟨w',hr,r1,r2,r3,r4,r5⟩:=hov w b b' o (l+1) cp o' l' (cp'+1) t1 t2 x1 x2 f1 hbb p1 p2 q1 (by rw[q2.1];simp)
 have bw:ax G w G w':=⟨r2,r3,r4,r5,by rw[r1];exact Nat.le_refl _,fun _ _=>Nat.le_refl _,fun b k _ _=>BI r1 _,fun b _ _=>by rw[r1],fun b _ hb=>⟨hb,rfl⟩,fun b _ hb=>⟨hb,rfl⟩⟩
 have hg':b9 G w':=⟨fun b hb=>h.aS.jM b (by rw[r1]at hb;exact hb),fun b hb=>h.aS.jU b (by rw[r1]at hb;exact hb)⟩
 have hinv:Inv G n D (E.put d (.bool false)) (a.put d (.bool false)) w':=by
  have:=h.put (s':=E.s) (lp':=E.lp) d (fun i hi=>by subst hi;simpa[bp]using hd) (.bool false) (.bool false) hg' bw (h.store.mono h.aS bw (fun b hb=>⟨hb,rfl,by rw[r1]⟩) (fun _ c j _ hc=>⟨hc,rfl,by rw[r1]⟩)) (fun _ hx=>hx) (fun i t _ ht=>ht.elim) (fun i t _⟨cs,hcs⟩=>by cases hcs)
   (fun _ _ _ _=>⟨rfl,rfl,by rw[r1]⟩) (fun _ _ _ _ _ _ hcc=>⟨hcc,rfl,by rw[r1]⟩) (fun i hdi=>⟨.bool _,trivial⟩)
  cases d<;>exact this
 intro pos after gd next Q hn
 refine aX (w':=w') (v:=.bool false) ?_ (hn G _ _ _ hinv bw hk)
 simp[execOp,resolve,Act.eval,Deferred.ofValue,invoke]
 simp[Act.eval]at e1 e2
 rw[e1,e2,hr]
theorem Kd(a b:List AV):views (a++b)=views a++views b:=by simp[views]
theorem TX(h:Inv G n D E a w){op:Op}{ty:TypeId}{f i:Nat}{args:List IX}{d:Option Nat}{K:St->Prop}(hd:bp n d=true)(hc:ao P op ty (.uI f i args)=true)(hw:jf P (.uI f i args) d E K):ri P G n D w a op ty d K:=by
 have hcc:ao P op ty (.call f args)=true:=by
  cases op<;>first|(simp[ao]at hc;done)|skip
  simp only[ao,Bool.and_eq_true]at hc
  exact hc.2
 have hw':Yn i E (fun U=>uJ P f U d K (bZ (xg true U) args)) (look E.e i):=hw
 have later:∀(G1:Gh)(U:St),Inv G1 n D U a w->ax G w G1 w->uJ P f U d K (bZ (xg true U) args)->ri P G n D w a op ty d K:=by
  intro G1 U h1 hp hk pos after g next Q hn
  exact Om h1 hd hcc hk pos after g next Q fun G' E' a' w' k1 k2 k3=>hn G' E' a' w' k1 (hp.trans k2) k3
 cases hl:look E.e i<;>rw[hl]at hw'<;>first|exact hw'.elim|skip
 rename_i sz m cs
 obtain⟨hw1,hw2⟩:=hw'
 have hin:i<n:=h.PB (by rw[hl];simp)
 have hlt:i<a.tmps.size:=by rw[h.size];exact hin
 have hs:=h.ch i _ (Array.getElem?_eq_getElem hlt)
 rw[hl]at hs
 rcases hs with⟨h1,h2,h3⟩|⟨b,cap,c,t,sp,h1,h2,h3,h4,h5,h6,h7,h8,h9,h10,h11,h12⟩
 ·subst h1;subst h2
  rcases h3 with h3|⟨b,off,h3⟩
  ·refine later G _ (h.Tj i hin (.arr 0 0 0 0) (fun t ht=>ht) (fun cs e=>by cases e) fun v hv=>?_) (ax.refl G w) (hw2 rfl 0 0)
   rw[Array.getElem?_eq_getElem hlt]at hv;injection hv with hv;subst hv
   exact⟨by rw[h3];exact .LB _ _,trivial⟩
  ·refine later G _ (h.Tj i hin (.arr b off 0 0) (fun t ht=>ht) (fun cs e=>by cases e) fun v hv=>?_) (ax.refl G w) (hw2 rfl b off)
   rw[Array.getElem?_eq_getElem hlt]at hv;injection hv with hv;subst hv
   exact⟨by rw[h3];exact .arr _ _ _ _,trivial⟩
 ·have Wj:E.s b=none:=by
   cases hsb:E.s b with
   |none=>rfl
   |some o=>have:=(h.store b o hsb).1;rw[h4]at this;cases this
  have ak6:views sp=sp:=by
   have:views cs++views sp=cs++sp:=by rw[<-Kd];exact h12
   exact(List.append_inj this (by simp[views])).2
  let G1:Gh:=G.sk b .sh 0
  have same:∀b',b'≠b->G1.O b'=G.O b'/\G1.R b'=G.R b'/\w.heap[b']? =w.heap[b']? :=fun b' hb'=>⟨by simp[G1,hb'],by simp[G1,hb'],rfl⟩
  have hRe:∀b',G1.R b'=G.R b':=fun b'=>by
   by_cases hb:b'=b
   ·subst hb;simp[G1,h5]
   ·simp[G1,hb]
  have bw:ax G w G1 w:=⟨rfl,rfl,rfl,Nat.le_refl _,Nat.le_refl _,fun b' _=>by rw[hRe];exact Nat.le_refl _,fun _ _ _ _=>rfl,fun _ _ _=>rfl,fun b' _ hb'=>by
   have:b'≠b:=fun e=>by subst e;rw[h4]at hb';cases hb'
   exact⟨(same b' this).1.trans hb',(same b' this).2.1⟩,fun b' _ hb'=>by
   have:b'≠b:=fun e=>by subst e;rw[h4]at hb';cases hb'
   exact⟨(same b' this).1.trans hb',(same b' this).2.1⟩⟩
  have hbl:b<w.heap.size:=h.aS.lt (by rw[h4];simp)
  have nt:b9 G1 w:=⟨fun b' hb'=>by
   have:b'≠b:=by omega
   rw[(same b' this).1,h.aS.jM b' hb'],fun b' hb'=>by rw[hRe,h.aS.jU b' hb']⟩
  have hst:aP G1 w (E.s.set b (.cells (cs++sp))):=by
   intro b' o hb'
   unfold ab.set at hb'
   by_cases hbg:b'=b
   ·rw[if_pos hbg]at hb';injection hb' with hb';subst hb';subst hbg
    refine⟨by simp[G1],by simp[G1],c,t,h6,⟨by rw[h7,h9],fun j x y hx hy=>⟨bw.vr h.aS (h10 j x y hx hy),?_⟩⟩,h11.tag _⟩
    rw[<-h12,eK]at hx
    cases hz:(cs++sp)[j]? with
    |none=>rw[hz]at hx;cases hx
    |some x'=>rw[hz]at hx;simp at hx;rw[<-hx];exact dm.view ..
   ·rw[if_neg hbg]at hb'
    obtain⟨r1,r2,r3⟩:=h.store b' o hb'
    refine⟨(same b' hbg).1.trans r1,(same b' hbg).2.1.trans r2,?_⟩
    cases o with
    |cells cs'=>
     obtain⟨c0,t0,r4,r5,r6⟩:=r3
     exact⟨c0,t0,r4,r5.mono (fun _ _ hv=>bw.vr h.aS hv) (fun b'' j ns=>by
      obtain⟨x1,x2,x3⟩:=same b'' (fun e=>by subst e;rw[h4]at ns;cases ns)
      exact⟨x1.trans ns,x2,x3⟩),r6⟩
    |map es=>
     obtain⟨iu,clock,r4,r5,r6⟩:=r3
     exact⟨iu,clock,r4,r5,fun j x y hx hy=>⟨bw.vr h.aS (r6 j x y hx hy).1,bw.vr h.aS (r6 j x y hx hy).2⟩⟩
  have h1':Inv G1 n D ({E with s:=E.s.set b (.cells (cs++sp))}.put (some i) (.arr b 0 m cap)) a w:=by
   have ha:a.put (some i) a.tmps[i]=a:=by
    have:a.tmps.setIfInBounds i a.tmps[i]=a.tmps:=by rw[Array.setIfInBounds,dif_pos hlt,Array.set_getElem_self]
    simp[Act.put,this]
   have:=h.put (s':=E.s.set b (.cells (cs++sp))) (lp':=E.lp) (some i) (fun j hj=>by injection hj with hj;subst hj;exact hin) (.arr b 0 m cap) a.tmps[i] nt bw hst (fun _ hx=>hx) (fun j t _ ht=>ht.elim) (fun j t _⟨cs,hcs⟩=>by cases hcs)
    (fun j b' hj hb'=>same b' (fun e=>by
      subst e
      rcases hb' with⟨q,hb'⟩|hb'<;>rw[h4]at hb'
      ·injection hb' with hb' _;exact hj (by rw[hb'])
      ·cases hb'))
    (fun j b' c' q _ _ hc'=>by
      obtain⟨x1,x2,x3⟩:=same c' (fun e=>by subst e;rw[h4]at hc';cases hc')
      exact⟨x1.trans hc',x2,x3⟩)
    (fun j hj=>by
      injection hj with hj;subst hj
      exact⟨by rw[h3];exact .arr _ _ _ _,trivial⟩)
   rw[ha]at this
   exact this
  exact later G1 _ h1' bw (hw1 b cap sp Wj h1 h2 h9 h11 ak6)
theorem Tb{R:Nat->Nat}{sz:Nat}{c:AV}{u:Value}(h:VR w R c u):VR w R (vW sz c) u:=by
 unfold vW
 split
 ·rename_i b
  rcases VR.cd h with e|⟨_,_,e⟩
  ·rw[e];exact .sl true sz 0 [] b 0 0 (fun _=>undef) Fl.nil (by simp) (by simp) (Nat.le_refl _) (fun j c hj=>by simp at hj) (fun j c hj=>by simp at hj)
  ·rw[e];exact .slnil _ _
 ·exact h
theorem PH{R:Nat->Nat}{o:cS}{sz:Nat}{c:AV}{u:Value}(h:VR w R c u):dm G w o (vW sz (view c)) u:=by
 unfold vW
 split
 ·rename_i b hb
  have:c=.arr b 0 0 0:=by cases c<;>simp[view]at hb<;>simp[hb]
  subst this
  intro base m cap hv hc
  rcases VR.cd h with e|⟨_,_,e⟩<;>rw[e]at hv<;>injection hv with _ e2 e3<;>omega
 ·exact dm.view ..
theorem K3{sz:Nat}{c:AV}(h:ry c=true):ry (vW sz c)=true:=by
 unfold vW
 split
 ·rfl
 ·exact h
theorem Qd{sz:Nat}{av:AV}{v:Value}(hi:dt av=true)(h:VR w G.R av v):Fl (cC sz av)/\v.cells.toList.length=(cC sz av).length/\(∀(j:Nat)(x:AV)(y:Value),(cC sz av)[j]? =some x->v.cells.toList[j]? =some y->VR w G.R x y)/\
 (∀y∈v.cells.toList,y.oneCell'=true):=by
 obtain⟨h1,h2,h3,h4⟩:=HY hi h
 cases av with
 |agg cs=>
  simp only[aZ]at h1 h2 h3
  refine⟨fun c hc=>?_,by simp only[cC,List.length_map];exact h2,fun j x y hx hy=>?_,h4⟩
  ·simp only[cC,List.mem_map]at hc
   obtain⟨c',hc',rfl⟩:=hc
   exact K3 (h1 c' hc')
  ·simp only[cC,List.getElem?_map]at hx
   cases hz:(views cs)[j]? with
   |none=>rw[hz]at hx;cases hx
   |some x'=>rw[hz]at hx;simp at hx;rw[<-hx];exact Tb (h3 j x' y hz hy)
 |_=>exact⟨h1,h2,h3,h4⟩
theorem Q1(h:Inv G n D E a w){op:Op}{ty:TypeId}{sz m:Nat}{p v:IX}{d:Option Nat}{K:St->Prop}(hd:bp n d=true)(hc:ao P op ty (.qX sz m p v)=true)(hw:jf P (.qX sz m p v) d E K):ri P G n D w a op ty d K:=by
 cases op<;>first|(simp[ao]at hc;done)|skip
 rename_i t q u
 simp only[ao,Bool.and_eq_true]at hc
 obtain⟨⟨hs,hq⟩,hu⟩:=hc
 obtain⟨hi,hm,hk⟩:=hw
 have hvr:VR w G.R (E.x v) (a.eval u):=by
  have:=XR.aN h hu
  generalize E.x v=av at hi this
  cases av<;>first|exact this|(simp[dt]at hi)
 have target:∃g off ez,a.eval q=.pointer (some ⟨g,off,none⟩)/\
  ((∃i,look E.e i=.loc ez/\a.tmps[i]? =some (.pointer (some ⟨g,0,none⟩))/\Ke (E.drain v) (E.x p) p (cC sz (E.x v))=wrL (E.drain v) i (eb off (cC sz (E.x v)) ez))\/
   (E.s g=some (.cells ez)/\Ke (E.drain v) (E.x p) p (cC sz (E.x v))=wrS (E.drain v) g (eb off (cC sz (E.x v)) ez))):=by
  have hb:=XR.aN h hq
  cases hp:E.x p with
  |loc ez=>
   rw[hp]at hb
   obtain⟨i,b,c,t',e1,e2,e3,e4,_⟩:=hb
   refine⟨b,0,ez,e4,.inl ⟨i,e2,by rw[e3,e4],?_⟩⟩
   subst e1;rfl
  |lp d0 off=>
   rw[hp]at hb hk
   obtain⟨b,e1,e2⟩:=hb
   have hk':Qv d K (Lr (E.drain v) d0 off (cC sz (E.x v)) (look (E.drain v).e d0)):=hk
   cases hl:look (E.drain v).e d0<;>rw[hl]at hk'<;>first|exact hk'.elim|skip
   rename_i ez
   have hl':=GY hi hl
   exact⟨b,off,ez,e1,.inl ⟨d0,hl',e2 ez hl',by show Lr _ _ _ _ (look (E.drain v).e d0)=_;rw[hl];rfl⟩⟩
  |ref b off=>
   rw[hp]at hb hk
   have e1:=VR.iQ hb
   have hk':Qv d K (Si (E.drain v) b off (cC sz (E.x v)) ((E.drain v).s b)):=hk
   have hs':(E.drain v).s=E.s:=by cases v<;>rfl
   rw[hs']at hk'
   cases hl:E.s b with
   |none=>rw[hl]at hk';exact hk'.elim
   |some so=>
    cases so with
    |map es=>rw[hl]at hk';exact hk'.elim
    |cells ez=>exact⟨b,off,ez,e1,.inr ⟨hl,by show Si _ _ _ _ ((E.drain v).s b)=_;rw[hs',hl];rfl⟩⟩
  |_=>rw[hp]at hk;exact hk.elim
 obtain⟨g,off,ez,e1,ac5⟩:=target
 obtain⟨G1,h1,hp1,hv1,rD,hR1,hsh,Zo,dy⟩:=h.drain hu hi (.cell g off) (by simp) (by simp)
 obtain⟨hfl,hlen,uT,BV⟩:=Qd (sz:=sz) hi hv1
 have F0:∀(j:Nat)(x:AV)(y:Value),(cC sz (E.x v))[j]? =some x->(a.eval u).cells.toList[j]? =some y->VR w G1.R x y/\dm G1 w (.cell g (off+j)) x y:=by
  intro j x y hx hy
  refine⟨uT j x y hx hy,?_⟩
  cases hv:E.x v with
  |agg cs=>
   rw[hv]at hx hv1
   obtain⟨vs,e,hl,hr,_⟩:=VR.sI hv1
   simp only[cC,List.getElem?_map]at hx
   rw[eK]at hx
   cases hc0:cs[j]? with
   |none=>rw[hc0]at hx;cases hx
   |some c0=>
    rw[hc0]at hx;simp at hx;rw[<-hx]
    rw[e]at hy
    exact PH (hr j c0 y hc0 (by simpa[Value.cells]using hy))
  |sl o s l cs=>
   rw[hv]at hx rD hv1
   cases j with
   |succ j=>simp[cC]at hx
   |zero=>
   simp[cC]at hx
   subst hx
   have:(a.eval u).cells= #[a.eval u]:=by rcases VR.hZ hv1 with⟨(e|⟨_,_,_,e⟩),_⟩|⟨_,_,_,e,_⟩<;>rw[e]<;>rfl
   rw[this]at hy
   simp at hy
   subst hy
   exact rD
  |bb t l cs=>
   rw[hv]at hx rD hv1
   cases j with
   |succ j=>simp[cC]at hx
   |zero=>
   simp[cC]at hx
   subst hx
   have ac6:VR w G1.R (.sl true 1 l cs) (a.eval u):=by cases hv1;assumption
   have:(a.eval u).cells= #[a.eval u]:=by rcases VR.hZ ac6 with⟨(e|⟨_,_,_,e⟩),_⟩|⟨_,_,_,e,_⟩<;>rw[e]<;>rfl
   rw[this]at hy
   simp at hy
   subst hy
   exact rD
  |_=>
   rw[hv]at hx
   cases j with
   |succ j=>simp[cC]at hx
   |zero=>simp[cC]at hx;subst hx;trivial
 have oe:(a.eval u).cells.toList.length=m:=by rw[hlen,hm]
 have xx:∀(U:St)(w':World),Inv G1 n D U a w'->Inv G1 n D (U.put d (.gw [])) (a.put d undef) w':=by
  intro U w' hτ
  have:=hτ.put (s':=U.s) (lp':=U.lp) d (fun i hi=>by subst hi;simpa[bp]using hd) (.gw []) undef hτ.aS (ax.refl G1 w') hτ.store (fun _ hx=>hx) (fun i t _ ht=>ht.elim) (fun i t _⟨cs,hcs⟩=>by cases hcs)
   (fun _ _ _ _=>⟨rfl,rfl,rfl⟩) (fun _ _ _ _ _ _ hcc=>⟨hcc,rfl,rfl⟩) (fun i hdi=>⟨#[],rfl,rfl,fun j x y hx=>by simp at hx⟩)
  cases d<;>exact this
 rcases ac5 with⟨i,e2,e3,e4⟩|⟨e2,e4⟩
 ·
  rw[e4]at hk
  cases hwr:eb off (cC sz (E.x v)) ez with
  |none=>rw[hwr]at hk;exact hk.elim
  |some cs'=>
   rw[hwr]at hk
   obtain⟨dL,rfl⟩:=tk hwr
   have e2':look (E.drain v).e i=.loc ez:=Dq hi e2
   have Db:=h1.ch i _ e3
   rw[e2']at Db
   obtain⟨b,c,t',q1,q2,q3,q4,q5,q6⟩:=Db
   injection q1 with q1;injection q1 with q1;injection q1 with q1 _ _
   subst q1
   have hne:∀j,G1.O g≠.cell g j:=fun j=>by rw[q2];simp
   have xL:off+(a.eval u).cells.toList.length<=c.size:=by rw[hlen,q5.1];exact dL
   have b7:=oO (P:=P) hs q4 (v:=a.eval u) (by simpa using oe) (by rw[<-oe];exact xL) BV
   have bw:ax G1 w G1 (w.setRow g (laid c off (a.eval u).cells.toList)):=ax.write q4 (by rw[q2];simp) (fun k hk=>by rw[q3]at hk;omega) (Nat.le_refl _) (fun _ _=>⟨rfl,rfl⟩)
   have ja:=du.lay q4 bw h1.aS q5 hlen dL hne F0
   obtain⟨h2,_⟩:=h1.written (E':=(E.drain v).put (some i) (.loc (setAt ez off (cC sz (E.x v))))) q4 (.inl ⟨i,q2⟩) q3 rfl
    (h1.store.mono h1.aS bw (fun b hb=>⟨hb,rfl,setRow_other w g b _ (fun e=>by subst e;rw[q2]at hb;cases hb)⟩) (fun b c j _ hc=>⟨hc,rfl,setRow_other w g c _ (fun e=>by subst e;rw[q2]at hc;cases hc)⟩))
    (fun k=>by
      by_cases hki:i=k
      ·subst hki
       exact .inr ⟨q2,e3,ez,_,e2',by simp[St.put,aM],ja,Fl.setAt q6 hfl off⟩
      ·refine .inl ⟨by simp[St.put,aM,hki],?_⟩
       rw[q2];intro e;injection e with e;exact hki e)
   intro pos after gd next Q hn
   exact sm (w':=w.setRow g (laid c off (a.eval u).cells.toList)) (by simp[execOp,e1,Instr.storeAt,Instr.sureAddr,b7]) (hn G1 _ _ _ (xx _ _ h2) (hp1.trans bw) hk)
 ·
  rw[e4]at hk
  cases hwr:eb off (cC sz (E.x v)) ez with
  |none=>rw[hwr]at hk;exact hk.elim
  |some cs'=>
   rw[hwr]at hk
   obtain⟨dL,rfl⟩:=tk hwr
   have hs':(E.drain v).s=E.s:=by cases v<;>rfl
   obtain⟨q2,q3,c,t',q4,q5,q6⟩:=h1.store g (.cells ez) (by rw[hs'];exact e2)
   have hne:∀j,G1.O g≠.cell g j:=fun j=>by rw[q2];simp
   have xL:off+(a.eval u).cells.toList.length<=c.size:=by rw[hlen,q5.1];exact dL
   have b7:=oO (P:=P) hs q4 (v:=a.eval u) (by simpa using oe) (by rw[<-oe];exact xL) BV
   have bw:ax G1 w G1 (w.setRow g (laid c off (a.eval u).cells.toList)):=ax.write q4 (by rw[q2];simp) (fun k hk=>by rw[q3]at hk;omega) (Nat.le_refl _) (fun _ _=>⟨rfl,rfl⟩)
   have ja:=du.lay q4 bw h1.aS q5 hlen dL hne F0
   have hst:aP G1 (w.setRow g (laid c off (a.eval u).cells.toList)) ((E.drain v).s.set g (.cells (setAt ez off (cC sz (E.x v))))):=by
    intro b o hb
    unfold ab.set at hb
    by_cases hbg:b=g
    ·rw[if_pos hbg]at hb;injection hb with hb;subst hb;subst hbg
     exact⟨q2,q3,_,t',setRow_heap w b c _ t' _ q4,ja,CW.setAt q6 hfl off⟩
    ·rw[if_neg hbg]at hb
     obtain⟨r1,r2,r3⟩:=h1.store b o hb
     refine⟨r1,r2,?_⟩
     have hbk:=setRow_other w g b (laid c off (a.eval u).cells.toList) hbg
     cases o with
     |cells cs=>
      obtain⟨c0,t0,r4,r5,r6⟩:=r3
      exact⟨c0,t0,hbk.trans r4,r5.mono (fun _ _ hv=>bw.vr h1.aS hv) (fun b' j hb'=>⟨hb',rfl,setRow_other w g b' _ (fun e=>by subst e;rw[q2]at hb';cases hb')⟩),r6⟩
     |map es=>
      obtain⟨iu,clock,r4,r5,r6⟩:=r3
      exact⟨iu,clock,hbk.trans r4,r5,fun j x y hx hy=>⟨bw.vr h1.aS (r6 j x y hx hy).1,bw.vr h1.aS (r6 j x y hx hy).2⟩⟩
   obtain⟨h2,_⟩:=h1.written (E':={E.drain v with s:=(E.drain v).s.set g (.cells (setAt ez off (cC sz (E.x v))))}) q4 (.inr q2) q3 rfl hst
    (fun k=>.inl ⟨rfl,by rw[q2];simp⟩)
   intro pos after gd next Q hn
   exact sm (w':=w.setRow g (laid c off (a.eval u).cells.toList)) (by simp[execOp,e1,Instr.storeAt,Instr.sureAddr,b7]) (hn G1 _ _ _ (xx _ _ h2) (hp1.trans bw) hk)
theorem VH(h:Inv G n D E a w){op:Op}{ty:TypeId}{sz m:Nat}{x:IX}{d:Option Nat}{K:St->Prop}(hd:bp n d=true)(hc:ao P op ty (.Fq sz m x)=true)(hw:jf P (.Fq sz m x) d E K):ri P G n D w a op ty d K:=by
 cases op<;>first|(simp[ao]at hc;done)|skip
 rename_i t y
 simp only[ao,Bool.and_eq_true]at hc
 obtain⟨hi,_,hk⟩:=hw
 have hvr:VR w G.R (E.x x) (a.eval y):=by
  have:=XR.aN h hc.2
  generalize E.x x=av at hi this
  cases av<;>first|exact this|(simp[dt]at hi)
 have eI:=gM hi hvr
 have hcs:∀(G':Gh)(w':World)(o:Nat->cS),ax G w G' w'->du G' w' o ((views (cellsOf (E.x x))).map (vW sz)) (a.eval y).cells:=by
  intro G' w' o hp
  refine⟨by simp only[List.length_map,views];exact eI.1,fun j c u hcj hu=>?_⟩
  simp only[List.getElem?_map]at hcj
  rw[eK]at hcj
  cases hz:(cellsOf (E.x x))[j]? with
  |none=>rw[hz]at hcj;cases hcj
  |some c0=>
   rw[hz]at hcj;simp at hcj
   have h1:=hp.vr h.aS (eI.2.1 j c0 u hz hu)
   rw[<-hcj]
   exact⟨Tb h1.view,PH h1⟩
 have hfl:Fl ((views (cellsOf (E.x x))).map (vW sz)):=by
  intro c hc'
  simp only[List.mem_map]at hc'
  obtain⟨c',h1,rfl⟩:=hc'
  exact K3 (eI.2.2.views c' h1)
 intro pos after g next Q hn
 obtain⟨G',h1,h2⟩:=h.Rz hd (t:=t) (.inl ⟨rfl,rfl⟩) hcs hfl
 refine aX ?_ (hn G' _ _ _ h1 h2 (hk w.heap.size (h.store.get_none h.aS)))
 simp[execOp,Instr.box,newVar,newRow]
end
end Go.AB
end
section
namespace Go.AB
open Go
section
variable{P:Program}{G G':Gh}{n:Nat}{D:List Deferred}{E:St}{a:Act}{w w':World}
end
end Go.AB
end
section
namespace Go.AB
open Go
section
variable{P:Program}{G G':Gh}{n:Nat}{D:List Deferred}{E:St}{a:Act}{w w':World}
theorem aP.shape{s:ab}(h:aP G w s){b:Nat}{cs:List AV}(hs:s b=some (.cells cs)):∃t,w.shape? b=some (t,cs.length)/\CW t cs:=by
 obtain⟨_,_,c,t,h4,h5,h6⟩:=h b _ hs
 exact⟨t,by simp[World.shape?,h4,h5.1],h6⟩
theorem XR.ref(h:Inv G n D E a w){y:Operand}{x:IX}(hy:bJ y x=true){b off:Nat}(hx:E.x x=.ref b off):a.eval y=.pointer (some ⟨b,off,none⟩):=by
 have:=XR.aN h hy
 rw[hx]at this
 exact VR.iQ this
theorem VI(h:Inv G n D E a w){op:Op}{ty:TypeId}{m t0 j0 u0:Nat}{x:IX}{d:Option Nat}{K:St->Prop}(hd:bp n d=true)(hc:ao P op ty (.LC m t0 j0 u0 x)=true)(hw:jf P (.LC m t0 j0 u0 x) d E K):ri P G n D w a op ty d K:=by
 cases op<;>first|(simp[ao]at hc;done)|skip
 rename_i t y
 simp only[ao,Bool.and_eq_true,beq_iff_eq]at hc
 obtain⟨⟨rfl,_⟩,hc⟩:=hc
 obtain⟨hi,_,hj0,hj1,hk⟩:=hw
 have hvr:VR w G.R (E.x x) (a.eval y):=by
  have:=XR.aN h hc
  generalize E.x x=av at hi this
  cases av<;>first|exact this|(simp[dt]at hi)
 have eI:=gM hi hvr
 have hj:j0+1<(cellsOf (E.x x)).length:=(List.getElem?_eq_some_iff.1 hj1).1
 have hcs:∀(G':Gh)(w':World)(o:Nat->cS),ax G w G' w'->du G' w' o (setAt (views (cellsOf (E.x x))) j0 [.qE t0,.bb u0 0 []]) (a.eval y).cells:=by
  intro G' w' o hp
  have hlen:j0+[AV.qE t0,AV.bb u0 0 []].length<=(views (cellsOf (E.x x))).length:=by simp[views];omega
  refine⟨by rw[mL _ _ _ hlen];simp only[List.length_map,views];exact eI.1,fun j c u hcj hu=>?_⟩
  rw[oY _ _ _ _ hlen]at hcj
  by_cases h1:j=j0
  ·subst h1
   rw[if_pos ⟨Nat.le_refl _,by simp⟩,Nat.sub_self]at hcj
   injection hcj with hcj;subst hcj
   have hu':=eI.2.1 j .dK u hj0 hu
   obtain rfl:u=.pointer none:=VR.uU hu'
   exact⟨.qE t0,trivial⟩
  ·by_cases h2:j=j0+1
   ·subst h2
    rw[if_pos ⟨by omega,by simp⟩,show j0+1 -j0=1 by omega]at hcj
    injection hcj with hcj;subst hcj
    have hu':=eI.2.1 _ _ u hj1 hu
    have e:u=.slice none 0 0:=by cases hu' with|bb _ _ _ _ h h0=>exact h0 rfl
    subst e
    exact⟨.bb _ _ _ _ (.slnil _ _) (fun _=>rfl),fun base m' dn hv hc=>by injection hv with _ e2 e3;omega⟩
   ·rw[if_neg (by simp;omega),eK]at hcj
    cases hz:(cellsOf (E.x x))[j]? with
    |none=>rw[hz]at hcj;cases hcj
    |some c0=>
     rw[hz]at hcj;simp at hcj
     have h1:=hp.vr h.aS (eI.2.1 j c0 u hz hu)
     rw[<-hcj]
     exact⟨h1.view,dm.view ..⟩
 have hfl:CW t0 (setAt (views (cellsOf (E.x x))) j0 [.qE t0,.bb u0 0 []]):=by
  intro c hc'
  unfold setAt at hc'
  simp only[List.mem_append]at hc'
  have base:=eI.2.2.views
  rcases hc' with(hc'|hc')|hc'
  ·exact .inl (base c (List.mem_of_mem_take hc'))
  ·simp only[List.mem_cons,List.not_mem_nil,or_false]at hc'
   rcases hc' with rfl|rfl
   ·exact .inr rfl
   ·exact .inl rfl
  ·exact .inl (base c (List.mem_of_mem_drop hc'))
 intro pos after g next Q hn
 obtain⟨G',h1,h2⟩:=h.abE hd (t:=t0) (.inl ⟨rfl,rfl⟩) hcs hfl
 refine aX ?_ (hn G' _ _ _ h1 h2 (hk w.heap.size (h.store.get_none h.aS)))
 simp[execOp,Instr.box,newVar,newRow]
end
end Go.AB
end
section
namespace Go.AB
open Go
section
variable{P:Program}{G G':Gh}{n:Nat}{D:List Deferred}{E:St}{a:Act}{w w':World}
theorem Inv.aaa(h:Inv G n D E a w){d:Option Nat}(hd:bp n d=true){av:AV}{v:Value}(hv:NR G w E a av v):Inv G n D ((bQ E av d).put d av) (a.put d v) w:=by
 have hd':∀i,d=some i->i<n:=fun i hi=>by subst hi;simpa[bp]using hd
 by_cases hlp:∃t off,av=.lp t off
 ·obtain⟨t,off,rfl⟩:=hlp
  cases d with
  |none=>exact h
  |some i=>
   obtain⟨b,hv1,hv2⟩:=hv
   refine h.put (s':=E.s) (lp':=(i,t)::E.lp) (some i) hd' (.lp t off) v h.aS (ax.refl G w) h.store (fun x hx=>List.mem_cons_of_mem _ hx) (fun j t' hj ht=>?_) (fun j t' _⟨cs,hcs⟩=>by cases hcs)
    (fun _ _ _ _=>⟨rfl,rfl,rfl⟩) (fun _ _ _ _ _ _ hcc=>⟨hcc,rfl,rfl⟩) (fun j hj=>?_)
   ·injection hj with hj;subst hj
    have:t=t':=ht
    subst this
    exact List.mem_cons_self
   ·injection hj with hj;subst hj
    refine⟨b,hv1,fun cs hcs=>?_⟩
    by_cases hit:i=t
    ·subst hit;simp[St.put,aM]at hcs
    ·simp only[St.put,aM,hit,if_false]at hcs
     simpa[Act.put,Array.getElem?_setIfInBounds_ne hit]using hv2 cs hcs
 ·have hnr:dt av=true/\VR w G.R av v/\view av=av:=by
   cases av<;>first|exact hv|exact(hlp ⟨_,_,rfl⟩).elim
  have hl:bQ E av d=E:=by cases av<;>first|rfl|exact(hlp ⟨_,_,rfl⟩).elim|exact absurd hnr.1 (by simp[dt])
  rw[hl]
  have:=h.put (s':=E.s) (lp':=E.lp) d hd' av v h.aS (ax.refl G w) h.store (fun _ hx=>hx) (fun i t _ ht=>(eQ hnr.1 t ht).elim) (fun i t _⟨cs,hcs⟩=>(oM hnr.1 cs hcs).elim)
   (fun _ _ _ _=>⟨rfl,rfl,rfl⟩) (fun _ _ _ _ _ _ hcc=>⟨hcc,rfl,rfl⟩) (fun i hi=>by
     rw[dg.qP hnr.1]
     refine⟨hnr.2.1,?_⟩
     rw[<-hnr.2.2]
     exact dm.view ..)
  cases d<;>exact this
theorem Inv.aab(h:Inv G n D E a w){d:Option Nat}(hd:bp n d=true):Inv G n D (E.put d (.gw [])) (a.put d undef) w:=by
 have:=h.put (s':=E.s) (lp':=E.lp) d (fun i hi=>by subst hi;simpa[bp]using hd) (.gw []) undef h.aS (ax.refl G w) h.store (fun _ hx=>hx) (fun i t _ ht=>ht.elim) (fun i t _⟨cs,hcs⟩=>by cases hcs)
  (fun _ _ _ _=>⟨rfl,rfl,rfl⟩) (fun _ _ _ _ _ _ hcc=>⟨hcc,rfl,rfl⟩) (fun i hi=>⟨#[],rfl,rfl,fun j x y hx=>by simp at hx⟩)
 cases d<;>exact this
theorem Ut(h:Inv G n D E a w){op:Op}{ty:TypeId}{o:ua}{d:Option Nat}{K:St->Prop}(hd:bp n d=true)(hc:ao P op ty o=true)(hw:owp P o d E K):ri P G n D w a op ty d K:=by
 unfold owp at hw
 cases hp:pv o (xg true E) E with
 |dv av=>
  rw[hp]at hw
  obtain⟨v,hr,hnr⟩:=Bg h hc (av:=av) (.inl hp)
  exact fun pos after g next Q hn=>aX (hr d pos after g) (hn G _ _ _ (h.aaa hd hnr) (ax.refl G w) hw)
 |prt c av=>
  rw[hp]at hw
  obtain⟨v,hr,hnr⟩:=Bg h hc (av:=av) (.inr ⟨c,hp,hw.1⟩)
  exact fun pos after g next Q hn=>aX (hr d pos after g) (hn G _ _ _ (h.aaa hd hnr) (ax.refl G w) hw.2)
 |no=>
  rw[hp]at hw
  have hw':jf P o d E K:=hw
  cases o with
  |jL tr x=>exact Y8 h hd hc hw'
  |aq z=>exact(Km h hd).1 hc hw'
  |gC z=>exact(Km h hd).2 hc hw'
  |dc m x=>exact(SK h hd).1 hc hw'
  |oz m x=>exact(SK h hd).2 hc hw'
  |bq sz m z ps=>exact Ol h hd hc hw'
  |store m p v=>exact T2 h hd hc hw'
  |append sz by' x y=>exact QU h hd hc hw'
  |fo x=>exact QX h hd hc hw'
  |gD x=>exact LU h hd hc hw'
  |call f args=>exact Om h hd hc hw'
  |fO sz by' z l c=>exact QZ h hd hc hw'
  |makeMap=>exact On h hd hc hw'
  |cu x args=>exact TY h hd hc hw'
  |lookup kk z ok x k=>exact QY h hd hc hw'
  |mapUpdate kk x k v=>exact IV h hd hc hw'
  |kc x=>exact QW h hd hc hw'
  |rW x=>exact VJ h hd hc hw'
  |jR sz m z ps=>exact LS h hd hc hw'
  |eV sz by' z x y=>exact Oi h hd hc hw'
  |lz sz by' z x y=>exact Oj h hd hc hw'
  |qX sz m p v=>exact Q1 h hd hc hw'
  |Fq sz m x=>exact VH h hd hc hw'
  |LC m t j u x=>exact VI h hd hc hw'
  |gN sz x y=>exact TZ h hd hc hw'
  |mo z x=>exact QV h hd hc hw'
  |T7 sz ow x=>exact Y7 h hd hc hw'
  |yq sz ow x=>exact T1 h hd hc hw'
  |jh x=>exact Ko h hd hc hw'
  |oq off j x=>exact T0 h hd hc hw'
  |YE ne x=>exact Y6 h hd hc hw'
  |U7 f x y=>exact Y9 h hd hc hw'
  |uI f i args=>exact TX h hd hc hw'
  |_=>exact hw'.elim
def A9(P:Program)(ops:Array Oper)(o:Oper)(a:Act)(w:World)(next:Act->World->Prop)(Q:Exit->Act->World->Prop):Prop:=if Region.wanted o (yielded ops a.tmps)then o.wp P a w next Q\/(o.asks P a w/\LetsOut Q)else next (a.put o.dst undef) w
theorem PL{ops:Array Oper}{o:Oper}{next:Act->World->Prop}{Q:Exit->Act->World->Prop}(hw:Region.wanted o (yielded ops a.tmps)=true)(h:o.wp P a w next Q):A9 P ops o a w next Q:=by unfold A9;rw[if_pos hw];exact .inl h
theorem K7{ops:Array Oper}{o:Oper}{next:Act->World->Prop}{Q:Exit->Act->World->Prop}(hw:Region.wanted o (yielded ops a.tmps)=false)(h:next (a.put o.dst undef) w):A9 P ops o a w next Q:=by unfold A9;rw[if_neg (by simp[hw])];exact h
theorem Oh(h:Inv G n D E a w){d:Option Nat}(hd:bp n d=true)(av:AV)(hl:∀t,bB av t->∀i,d=some i->(i,t)∈E.lp):Inv G n D (E.put d (.when false av)) (a.put d undef) w:=by
 have:=h.put (s':=E.s) (lp':=E.lp) d (fun i hi=>by subst hi;simpa[bp]using hd) (.when false av) undef h.aS (ax.refl G w) h.store (fun _ hx=>hx) (fun i t hi ht=>hl t ht i hi) (fun i t _⟨cs,hcs⟩=>by cases hcs)
  (fun _ _ _ _=>⟨rfl,rfl,rfl⟩) (fun _ _ _ _ _ _ hcc=>⟨hcc,rfl,rfl⟩) (fun i hi=>⟨fun hh=>Bool.noConfusion hh,fun _=>rfl⟩)
 cases d<;>exact this
theorem ji(E:St):∀(av:AV)(d:Option Nat),(bQ E av d).e=E.e/\(bQ E av d).s=E.s/\∀x∈E.lp,x∈(bQ E av d).lp
 |.lp t _,some i=>⟨rfl,rfl,fun x hx=>List.mem_cons_of_mem _ hx⟩
 |.lp t _,none=>⟨rfl,rfl,fun _ hx=>hx⟩
 |.when _ av,d=>ji E av d
 |.undef,_|.bool _,_|.int _ _,_|.str _,_|.dK,_|.ref _ _,_|.sp _,_|.loc _,_|.sl _ _ _ _,_|.arr _ _ _ _,_|.agg _,_|.gw _,_|.fn _ _ _,_|.oK,_|.mp _,_|.oL,_|.us _ _ _,_|.one,_|.qE _,_|.A6,_|.bb _ _ _,_=>⟨rfl,rfl,fun _ hx=>hx⟩
theorem WT(h:Inv G n D E a w)(av:AV)(d:Option Nat):Inv G n D (bQ E av d) a w:=by
 obtain⟨e1,e2,e3⟩:=ji E av d
 exact⟨h.aS,by rw[e2];exact h.store,h.size,fun i v hv=>by rw[e1];exact h.ch i v hv,fun i hi=>by rw[e1];exact h.IT i hi,fun i t ht=>e3 _ (h.Qs i t (by rw[e1]at ht;exact ht)),h.ue⟩
theorem Cl:∀(av:AV)(d:Option Nat)(t:Nat),bB av t->∀i,d=some i->(i,t)∈(bQ E av d).lp
 |.lp t' off,_,t,ht,i,rfl=>by have:t'=t:=ht;subst this;exact List.mem_cons_self
 |.when _ av,d,t,ht,i,hi=>Cl av d t ht i hi
 |.undef,_,_,ht,_,_|.bool _,_,_,ht,_,_|.int _ _,_,_,ht,_,_|.str _,_,_,ht,_,_|.dK,_,_,ht,_,_|.ref _ _,_,_,ht,_,_|.sp _,_,_,ht,_,_|.loc _,_,_,ht,_,_|.sl _ _ _ _,_,_,ht,_,_
 |.arr _ _ _ _,_,_,ht,_,_|.agg _,_,_,ht,_,_|.gw _,_,_,ht,_,_|.fn _ _ _,_,_,ht,_,_|.oK,_,_,ht,_,_|.mp _,_,_,ht,_,_|.oL,_,_,ht,_,_|.us _ _ _,_,_,ht,_,_|.one,_,_,ht,_,_|.qE _,_,_,ht,_,_|.A6,_,_,ht,_,_|.bb _ _ _,_,_,ht,_,_=>ht.elim
theorem Inv.wK{d:Option Nat}{av:AV}(h:Inv G n D (E.put d av) a w)(hd:bp n d=true):Inv G n D (E.put d (.when true av)) a w:=by
 cases d with
 |none=>exact h
 |some i=>
 have hlk:∀k,k≠i->look (E.put (some i) (.when true av)).e k=look (E.put (some i) av).e k:=fun k hk=>by simp[St.put,aM,Ne.symm hk]
 have e1:look (E.put (some i) av).e i=av:=by simp[St.put,aM]
 have e2:look (E.put (some i) (.when true av)).e i=.when true av:=by simp[St.put,aM]
 have Zo:∀d' cs,look (E.put (some i) (.when true av)).e d'=.loc cs->look (E.put (some i) av).e d'=.loc cs:=by
  intro d' cs hcs
  by_cases hd':d'=i
  ·subst hd';rw[e2]at hcs;cases hcs
  ·rw[hlk d' hd']at hcs;exact hcs
 have fr:∀k av' u,dg G w (E.put (some i) av).e a.tmps k av' u->dg G w (E.put (some i) (.when true av)).e a.tmps k av' u:=fun k av' u hv=>dg.frame (fun _ _ hv=>hv) (fun b _=>⟨rfl,rfl,rfl⟩) (fun _ _ _ _ hc=>⟨hc,rfl,rfl⟩) _ _ (fun d' _ cs hcs=>⟨cs,Zo d' cs hcs,rfl⟩) hv
 refine⟨h.aS,h.store,h.size,fun k u hu=>?_,fun k hk=>?_,fun k t ht=>?_,h.ue⟩
 ·have hs:=h.ch k u hu
  by_cases hk:k=i
  ·subst hk
   rw[e1]at hs
   rw[e2]
   exact⟨fun _=>fr _ _ _ hs,fun hh=>Bool.noConfusion hh⟩
  ·rw[hlk k hk];exact fr _ _ _ hs
 ·have:k≠i:=by
   have:i<n:=by simpa[bp]using hd
   omega
  rw[hlk k this];exact h.IT k hk
 ·by_cases hk:k=i
  ·subst hk
   rw[e2]at ht
   exact h.Qs k t (by rw[e1];exact ht)
  ·rw[hlk k hk]at ht;exact h.Qs k t ht
theorem zO{ops:Array Oper}{tmps:Array Value}{j t:Nat}(h:(ops[j]?).bind (·.dst)=some t):yielded ops tmps j=(match tmps[t]? with|some (.bool b)=>some b|_=>none):=by
 unfold yielded
 rw[h]
 rfl
theorem FV{ops:Array Oper}{o:Oper}{j t:Nat}{want b:Bool}(hg:o.guard=some (j,want))(ht:(ops[j]?).bind (·.dst)=some t)(hv:a.tmps[t]? =some (.bool b)):Region.wanted o (yielded ops a.tmps)=(b==want):=by
 unfold Region.wanted
 rw[hg]
 simp only[zO ht,hv]
 cases b<;>cases want<;>rfl
theorem Nl(h:Inv G n D E a w){t:Nat}(hl:look E.e t≠.undef):∃v,a.tmps[t]? =some v/\dg G w E.e a.tmps t (look E.e t) v:=by
 have hlt:t<a.tmps.size:=by rw[h.size];exact h.PB hl
 exact⟨_,iE hlt,h.ch t _ (iE hlt)⟩
theorem gG(h:Inv G n D E a w){ops:Array Oper}{o:Oper}{o':ah}{K:St->Prop}(hc:gV P n ops o o'=true)(hw:Qr P o' E K){next:Act->World->Prop}{Q:Exit->Act->World->Prop}
 (hn:∀G' E' a' w',Inv G' n D E' a' w'->ax G w G' w'->K E'->next a' w'):A9 P ops o a w next Q:=by
 obtain⟨dst,op,ty,pos,after,g⟩:=o
 obtain⟨d,io,ig⟩:=o'
 simp only[gV,Bool.and_eq_true,beq_iff_eq]at hc
 obtain⟨⟨⟨rfl,hd⟩,hcg⟩,acW⟩:=hc
 have runs:∀{E₁:St},Inv G n D E₁ a w->owp P io dst E₁ K->(⟨dst,op,ty,pos,after,g⟩:Oper).wp P a w next Q:=fun h1 ho=>Ut h1 hd acW ho pos after g next Q hn
 cases ig with
 |none=>
  cases g with
  |some g=>simp[Y1]at hcg
  |none=>exact PL rfl (runs h hw)
 |some tw=>
  obtain⟨t,want⟩:=tw
  cases g with
  |none=>simp[Y1]at hcg
  |some jw=>
  obtain⟨j,Bv⟩:=jw
  simp only[Y1,Bool.and_eq_true,beq_iff_eq]at hcg
  obtain⟨rfl,ht⟩:=hcg
  have hw':BQ P io dst t Bv E K (look E.e t):=hw
  have skip:∀{E₁:St},Inv G n D E₁ a w->K (E₁.put dst (.gw []))->next (a.put dst undef) w:=fun h1 hk=>hn G _ _ _ (h1.aab hd) (ax.refl G w) hk
  have core:∀(g:Bool),Region.wanted ⟨dst,op,ty,pos,after,some (j,Bv)⟩ (yielded ops a.tmps)=g->U6 P g io E dst K (pv io (xg g E) E)->A9 P ops ⟨dst,op,ty,pos,after,some (j,Bv)⟩ a w next Q:=by
   intro g hwt hx
   cases g with
   |true=>
    refine PL hwt ?_
    cases hp:pv io (xg true E) E with
    |dv av=>
     rw[hp]at hx
     obtain⟨v,hr,hnr⟩:=Bg h acW (av:=av) (.inl hp)
     refine aX (hr _ _ _ _) (hn G _ _ _ ((h.aaa hd hnr).wK hd) (ax.refl G w) hx)
    |prt c av=>
     rw[hp]at hx
     obtain⟨v,hr,hnr⟩:=Bg h acW (av:=av) (.inr ⟨c,hp,hx.1 rfl⟩)
     refine aX (hr _ _ _ _) (hn G _ _ _ ((h.aaa hd hnr).wK hd) (ax.refl G w) hx.2)
    |no=>
     rw[hp]at hx
     exact runs h (hx.1 rfl)
   |false=>
    refine K7 hwt ?_
    cases hp:pv io (xg false E) E with
    |dv av=>
     rw[hp]at hx
     exact hn G _ _ _ (Oh (WT h av dst) hd av (fun t' ht' i hi=>Cl av dst t' ht' i hi)) (ax.refl G w) hx
    |prt c av=>
     rw[hp]at hx
     exact hn G _ _ _ (Oh (WT h av dst) hd av (fun t' ht' i hi=>Cl av dst t' ht' i hi)) (ax.refl G w) hx.2
    |no=>
     rw[hp]at hx
     exact skip h (hx.2 rfl)
  cases hlk:look E.e t with
  |bool b=>
   rw[hlk]at hw'
   obtain⟨v,hv1,hv2⟩:=Nl h (t:=t) (by rw[hlk];simp)
   rw[hlk]at hv2
   have:=VR.fZ hv2.1
   subst this
   exact core _ (FV (o:=⟨dst,op,ty,pos,after,some (j,Bv)⟩) rfl ht hv1) hw'
  | «when» b' g=>
    rw[hlk]at hw'
    obtain⟨v,hv1,hv2⟩:=Nl h (t:=t) (by rw[hlk];simp)
    rw[hlk]at hv2
    cases g with
    |bool b=>
     have hx:U6 P (b'&&(b==Bv)) io E dst K (pv io (xg (b'&&(b==Bv)) E) E):=hw'
     cases b' with
     |true=>
      have hvb:=hv2.1 rfl
      have:=VR.fZ hvb.1
      subst this
      exact core _ (FV (o:=⟨dst,op,ty,pos,after,some (j,Bv)⟩) rfl ht hv1) hx
     |false=>
      have:=hv2.2 rfl
      subst this
      have hwt:Region.wanted ⟨dst,op,ty,pos,after,some (j,Bv)⟩ (yielded ops a.tmps)=false:=by
       unfold Region.wanted
       simp only[zO ht,hv1]
       rfl
      exact core _ hwt hx
    |_=>exact hw'.elim
  |gw vs=>
   rw[hlk]at hw'
   cases vs with
   |cons _ _=>exact hw'.elim
   |nil=>
    obtain⟨v,hv1,hv2⟩:=Nl h (t:=t) (by rw[hlk];simp)
    rw[hlk]at hv2
    obtain⟨ys,rfl,_⟩:=hv2
    have hwt:Region.wanted ⟨dst,op,ty,pos,after,some (j,Bv)⟩ (yielded ops a.tmps)=false:=by
     unfold Region.wanted
     simp only[zO ht,hv1]
     rfl
    exact K7 hwt (skip h hw')
  |_=>rw[hlk]at hw';exact hw'.elim
end
end Go.AB
end
