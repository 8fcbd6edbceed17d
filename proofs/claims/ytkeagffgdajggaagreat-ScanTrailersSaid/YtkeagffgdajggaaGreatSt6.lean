/- A part. -/
import Derived.Test.YtkeagffgdajggaaGreatSt5
set_option linter.unusedSimpArgs false
set_option linter.unusedVariables false
section
namespace Go.AB
open Go Go.MapKept
section
variable{P:Program}{G:Gh}{n:Nat}{D:List Deferred}{E:St}{a:Act}{w:World}
theorem xV{R:Nat->Nat}{kk:lE}{k:AV}{x:Value}(hk:fw kk k=true)(hx:VR w R k x):∀(es:List (AV×AV))(l:List MapEntry),l.length=es.length->
 (∀(j:Nat)(p:AV×AV)(y:MapEntry),es[j]? =some p->l[j]? =some y->VR w R p.1 y.key/\VR w R p.2 y.val)->mQ kk es=true->
 ((∀e∈l,e.key≠x)->eY k es=none/\∀v,xi k v es=es++[(k,v)])/\
 (∀(j:Nat)(e:MapEntry),l[j]? =some e->e.key=x->(∀(i:Nat)(e':MapEntry),i<j->l[i]? =some e'->e'.key≠x)->∃p,es[j]? =some p/\eY k es=some p.2/\∀v,xi k v es=es.set j (k,v))
 |[],[],_,_,_=>⟨fun _=>⟨rfl,fun v=>rfl⟩,fun j e hj=>by simp at hj⟩
 |[],_::_,hl,_,_=>by simp at hl
 |_::_,[],hl,_,_=>by simp at hl
 |p::es,y::l,hl,hr,hks=>by
  have ZM:fw kk p.1=true/\mQ kk es=true:=by simpa[mQ]using hks
  have h0:=(hr 0 p y rfl rfl).1
  have x4:=Nc hk ZM.1 hx h0
  obtain⟨i1,i2⟩:=xV hk hx es l (by simpa using hl) (fun j q z hq hz=>hr (j+1) q z (by simpa using hq) (by simpa using hz)) ZM.2
  constructor
  ·intro hne
   have hf:rW k p.1=false:=by
    cases hh:rW k p.1 with
    |false=>rfl
    |true=>exact absurd (x4.1 hh) (hne y (.head _))
   obtain⟨j1,j2⟩:=i1 fun e he=>hne e (.tail _ he)
   refine⟨by simp[eY,hf,j1],fun v=>by simp[xi,hf,j2 v]⟩
  ·intro j e hj hek Gk
   cases j with
   |zero=>
    simp at hj;subst hj
    have hf:rW k p.1=true:=x4.2 hek
    exact⟨p,rfl,by simp[eY,hf],fun v=>by simp[xi,hf]⟩
   |succ j=>
    have hf:rW k p.1=false:=by
     cases hh:rW k p.1 with
     |false=>rfl
     |true=>exact absurd (x4.1 hh) (Gk 0 y (by omega) rfl)
    obtain⟨q,q1,q2,q3⟩:=i2 j e (by simpa using hj) hek fun i e' hi he'=>Gk (i+1) e' (by omega) (by simpa using he')
    exact⟨q,by simpa using q1,by simp[eY,hf,q2],fun v=>by simp[xi,hf,q3 v]⟩
theorem Inv.Jx(h:Inv G n D E a w){d:Option Nat}(hd:aS n d=true){av:AV}{v:Value}(hi:cO av=true)(hv:VR w G.R av v):Inv G n D (E.put d (view av)) (a.put d v) w:=by
 have h2:NR G w E a (view av) v:=NR.view hi hv
 have:=h.put (s':=E.s) (lp':=E.lp) d (fun i hi=>by subst hi;simpa[aS]using hd) (view av) v h.aJ (az.refl G w) h.store (fun _ hx=>hx) (fun i t _ ht=>(dN (jW hi) t ht).elim) (fun i t _⟨cs,hcs⟩=>(l8 (jW hi) cs hcs).elim)
  (fun _ _ _ _=>⟨rfl,rfl,rfl⟩) (fun _ _ _ _ _ _ hcc=>⟨hcc,rfl,rfl⟩) (fun i hdi=>cN.wW hi hv)
 cases d<;>exact this
theorem Inv.WA(h:Inv G n D E a w){d:Option Nat}(hd:aS n d=true){av:AV}{v:Value}(b:Bool)(hv:VR w G.R av v):Inv G n D (E.put d (.gb [view av,.bool b])) (a.put d (.tuple #[v,.bool b])) w:=by
 have:=h.put (s':=E.s) (lp':=E.lp) d (fun i hi=>by subst hi;simpa[aS]using hd) (.gb [view av,.bool b]) (.tuple #[v,.bool b]) h.aJ (az.refl G w) h.store (fun _ hx=>hx) (fun i t _ ht=>ht.elim) (fun i t _⟨cs,hcs⟩=>by cases hcs)
  (fun _ _ _ _=>⟨rfl,rfl,rfl⟩) (fun _ _ _ _ _ _ hcc=>⟨hcc,rfl,rfl⟩) (fun i hdi=>⟨_,rfl,rfl,fun j x y hx hy=>by
    match j with
    |0=>simp at hx hy;subst hx;subst hy;exact⟨hv.view,cQ.view ..⟩
    |1=>simp at hx hy;subst hx;subst hy;exact⟨.bool b,trivial⟩
    |j+2=>simp at hx⟩)
 cases d<;>exact this
theorem BR.key{x:IX}{kk:lE}{av:AV}{v:Value}(hk:fw kk av=true)(h:BR G w E a x av v):VR w G.R av v:=by cases av<;>first|exact h|(cases kk<;>simp[fw]at hk)
theorem Lv{t:TypeId}{z:AV}(h:Lu P t z=true):∃v,(∀w:World,(zeroValue t).run P w=.ok v w)/\(∀(w:World)(R:Nat->Nat),VR w R z v)/\cO z=true:=by
 unfold Lu at h
 split at h<;>first|(cases h;done)|skip
 rename_i i hi
 split at h<;>first|(cases h;done)|skip
 rename_i v hv
 refine⟨v,fun w=>by simp[zeroValue,typeInfo,hi,hv],?_⟩
 split at h
 ·exact⟨fun w R=>Lz h w R,rfl⟩
 ·exact⟨fun w R=>q9 h w R,Ov h⟩
theorem Kq(h:Inv G n D E a w){op:Op}{ty:TypeId}{kk:lE}{z:AV}{ok:Bool}{x k:IX}{d:Option Nat}{K:St->Prop}(hd:aS n d=true)(hc:aq P op ty (.lookup kk z ok x k)=true)(hw:gz P (.lookup kk z ok x k) d E K):mr P G n D w a op ty d K:=by
 cases op<;>first|(simp[aq]at hc;done)|skip
 rename_i t y j ok'
 simp only[aq,Bool.and_eq_true,beq_iff_eq]at hc
 obtain⟨⟨⟨hy,hj⟩,rfl⟩,hc⟩:=hc
 split at hc<;>try(cases hc;done)
 rename_i kt et ht
 simp only[Bool.and_eq_true]at hc
 obtain⟨hkt,hz⟩:=hc
 have bk:=E2 hkt
 obtain⟨zv,hz1,hz2,hz3⟩:=Lv hz
 have hb:=BR.aG h hy
 have hbk:=BR.aG h hj
 have hw':K6 E d K (ij kk z ok E.s (xg true E k) (xg true E x)):=hw
 generalize xg true E x=xv at hb hw'
 generalize xg true E k=kv at hbk hw'
 have fin:∀(av:AV)(v:Value)(b:Bool),(ok=false->cO av=true)->VR w G.R av v->K (E.put d (KZ ok av b))->view av=av->
  (∀(pos:String)(after:Array Edge)(g:Option (Nat×Bool)),(execOp a.eval ⟨d,.lookup t y j ok,ty,pos,after,g⟩).run P w=.ok (.value (if ok then .tuple #[v,.bool b]else v)) w)->mr P G n D w a (.lookup t y j ok) ty d K:=by
  intro av v b hi hvr hk hvw hr pos after g next Q hn
  refine aI (hr pos after g) (hn G _ _ _ ?_ (az.refl G w) hk)
  cases ok with
  |true=>
   have:=h.WA hd b hvr
   rw[hvw]at this
   exact this
  |false=>
   have:=h.Jx hd (hi rfl) hvr
   rw[hvw]at this
   exact this
 have pl:∀{av:AV}{b:Bool},CK ok (KZ ok av b)=true->ok=false->cO av=true:=by
  intro av b hp ho
  subst ho
  exact hp
 unfold ij at hw'
 split at hw'
 ·rename_i b
  have e1:a.eval y=.map (some b):=VR.KF hb
  unfold s5 at hw'
  split at hw'<;>try(exact hw'.elim)
  rename_i es hes
  unfold NW at hw'
  cases hp:CK ok (uy z ok (eY kv es))with
  |false=>rw[hp]at hw';exact hw'.elim
  |true=>
  rw[hp]at hw'
  obtain⟨⟨hkk,hks⟩,hK⟩:=hw'
  have hvk:=hbk.key hkk
  have hkv:=rX hkk hvk
  obtain⟨_,_,gM,clock,hh,hsz,z6⟩:=h.store b _ hes
  have cE:∀e∈gM.toList,KV kk e.key:=fun e he=>by
   obtain⟨i,hi⟩:=List.mem_iff_getElem?.1 he
   have hlt:i<es.length:=by rw[<-hsz];have:=(List.getElem?_eq_some_iff.1 hi).1;simpa using this
   have h1:=z6 i _ e (List.getElem?_eq_getElem hlt) (by simpa using hi)
   exact rX (List.all_eq_true.1 hks _ (List.getElem_mem hlt)) h1.1
  obtain⟨f1,f2⟩:=xV hkk hvk es gM.toList (by simpa using hsz) (fun j p y hp hy=>z6 j p y hp (by simpa using hy)) hks
  have jU:=Go.MapKept.run_getObj_map (P:=P) hh
  have hck:=bk.check w gM.isEmpty _ hkv
  rcases bk.find w _ hkv gM.toList cE with⟨q1,q2⟩|⟨m,e,q1,q2,q3,q4⟩
  ·obtain⟨g1,_⟩:=f1 q2
   rw[g1]at hK hp
   refine fin (view z) zv false (pl hp) (hz2 w G.R).view hK (kM _) fun pos after g=>?_
   cases ok<;>simp[execOp,Instr.lookup,run_underlying ht,e1,jU,hck,q1,hz1]
  ·obtain⟨p,g1,g2,_⟩:=f2 m e q2 q3 q4
   rw[g2]at hK hp
   have hvr:=(z6 m p e g1 (by simpa using q2)).2
   refine fin (view p.2) e.val true (pl hp) hvr.view hK (kM _) fun pos after g=>?_
   cases ok<;>simp[execOp,Instr.lookup,run_underlying ht,e1,jU,hck,q1]
 ·have e1:a.eval y=.map none:=VR.IW hb
  unfold NW at hw'
  cases hp:CK ok (KZ ok (view z) false)with
  |false=>rw[hp]at hw';exact hw'.elim
  |true=>
  rw[hp]at hw'
  obtain⟨hkk,hK⟩:=hw'
  have hkv:=rX hkk (hbk.key hkk)
  have hck:=bk.check w true _ hkv
  refine fin (view z) zv false (pl hp) (hz2 w G.R).view hK (kM _) fun pos after g=>?_
  ·rcases bk.find w _ hkv [] (by simp)with⟨q1,_⟩|⟨m,e,_,q2,_⟩
   ·cases ok<;>simp[execOp,Instr.lookup,run_underlying ht,e1,hck,q1,hz1]
   ·simp at q2
 ·exact hw'.elim
theorem Inv.Uw(h:Inv G n D E a w){b:Nat}{gM qk:Array MapEntry}{clock nR:Nat}(hb:w.heap[b]? =some (.map gM clock))(ho:G.O b=.sh)(hR:G.R b=0){es':List (AV×AV)}
 (z6:qk.size=es'.length/\∀(j:Nat)(x:AV×AV)(y:MapEntry),es'[j]? =some x->qk[j]? =some y->YW G w x y):
 Inv G n D {E with s:=E.s.set b (.map es')} a {w with heap:=w.heap.setIfInBounds b (.map qk nR)}/\az G w G {w with heap:=w.heap.setIfInBounds b (.map qk nR)}:=by
 obtain⟨hs1,hs2⟩:=heap_set (w:=w) (o':=.map qk nR) hb
 have cS:∀c k,({w with heap:=w.heap.setIfInBounds b (.map qk nR)}:World).cell? ⟨c,k,none⟩=w.cell? ⟨c,k,none⟩:=by
  intro c k
  by_cases hc:c=b
  ·subst hc
   unfold World.cell?
   simp only[hs1,hb]
  ·exact World.cell?_of_block (hs2 c hc)
 have hsz:({w with heap:=w.heap.setIfInBounds b (.map qk nR)}:World).heap.size=w.heap.size:=by simp
 have hp:az G w G {w with heap:=w.heap.setIfInBounds b (.map qk nR)}:=⟨rfl,rfl,rfl,Nat.le_refl _,by rw[hsz];exact Nat.le_refl _,fun _ _=>Nat.le_refl _,fun c k _ _=>cS c k,fun c _ hc=>hs2 c (fun e=>by subst e;rw[ho]at hc;rcases hc with hc|hc<;>cases hc),fun _ _ h=>⟨h,rfl⟩,fun _ _ h=>⟨h,rfl⟩⟩
 have hne:∀c,G.O c≠.sh->({w with heap:=w.heap.setIfInBounds b (.map qk nR)}:World).heap[c]? =w.heap[c]? :=fun c hc=>hs2 c fun e=>hc (by rw[e];exact ho)
 refine⟨⟨⟨fun c hc=>h.aJ.ik c (by rw[hsz]at hc;exact hc),fun c hc=>h.aJ.iT c (by rw[hsz]at hc;exact hc)⟩,?_,h.size,fun i v hi=>?_,h.DE,h.JX,h.qG⟩,hp⟩
 ·intro c o hc
  have hc':(if c=b then some (SO.map es')else E.s c)=some o:=hc
  by_cases hcb:c=b
  ·rw[if_pos hcb]at hc'
   injection hc' with hc'
   subst hcb;subst hc'
   exact⟨ho,hR,qk,nR,hs1,z6.1,fun j x y hx hy=>⟨hp.vr h.aJ (z6.2 j x y hx hy).1,hp.vr h.aJ (z6.2 j x y hx hy).2⟩⟩
  ·rw[if_neg hcb]at hc'
   obtain⟨r1,r2,r3⟩:=h.store c o hc'
   refine⟨r1,r2,?_⟩
   cases o with
   |cells cs=>
    obtain⟨c0,t0,k1,k2,k3⟩:=r3
    exact⟨c0,t0,(hs2 c hcb).trans k1,k2.mono (fun _ _ hv=>hp.vr h.aJ hv) (fun c' j hc'=>⟨hc',rfl,hne c' (by rw[hc'];simp)⟩),k3⟩
   |map es=>
    obtain⟨e0,t0,k1,k2,k3⟩:=r3
    exact⟨e0,t0,(hs2 c hcb).trans k1,k2,fun j x y hx hy=>⟨hp.vr h.aJ (k3 j x y hx hy).1,hp.vr h.aJ (k3 j x y hx hy).2⟩⟩
 ·exact cN.frame (fun _ _ hv=>hp.vr h.aJ hv) (fun c hc=>⟨rfl,rfl,hne c (by rcases hc with⟨j,hc⟩|hc<;>rw[hc]<;>simp)⟩) (fun c c' j _ hc=>⟨hc,rfl,hne c' (by rw[hc];simp)⟩) _ _ (fun d _ cs hcs=>⟨cs,hcs,rfl⟩) (h.bO i v hi)
theorem DG(h:Inv G n D E a w){op:Op}{ty:TypeId}{kk:lE}{x k v:IX}{d:Option Nat}{K:St->Prop}(hd:aS n d=true)(hc:aq P op ty (.mapUpdate kk x k v)=true)(hw:gz P (.mapUpdate kk x k v) d E K):mr P G n D w a op ty d K:=by
 cases op<;>first|(simp[aq]at hc;done)|skip
 rename_i t y j u
 simp only[aq,Bool.and_eq_true]at hc
 obtain⟨⟨⟨hy,hj⟩,hu⟩,hc⟩:=hc
 split at hc<;>try(cases hc;done)
 rename_i kt et ht
 have bk:=E2 hc
 have hb:=BR.aG h hy
 have hbk:=BR.aG h hj
 have hbv:=BR.aG h hu
 have hw':s9 kk E (xg true E k) (xg true E v) d K (xg true E x):=hw
 generalize xg true E x=xv at hb hw'
 generalize xg true E k=kv at hbk hw'
 generalize xg true E v=vv at hbv hw'
 unfold s9 at hw'
 split at hw'<;>try(exact hw'.elim)
 rename_i b
 unfold Xn at hw'
 split at hw'<;>try(exact hw'.elim)
 rename_i es hes
 obtain⟨⟨hi,hkk,hks⟩,hK⟩:=hw'
 have e1:a.eval y=.map (some b):=VR.KF hb
 have hvv:VR w G.R vv (a.eval u):=by cases vv<;>first|exact hbv|(simp[cO]at hi)
 have hvk:=hbk.key hkk
 have hkv:=rX hkk hvk
 obtain⟨ho,hR,gM,clock,hh,hsz,z6⟩:=h.store b _ hes
 have cE:∀e∈gM.toList,KV kk e.key:=fun e he=>by
  obtain⟨i,hi⟩:=List.mem_iff_getElem?.1 he
  have hlt:i<es.length:=by rw[<-hsz];have:=(List.getElem?_eq_some_iff.1 hi).1;simpa using this
  have h1:=z6 i _ e (List.getElem?_eq_getElem hlt) (by simpa using hi)
  exact rX (List.all_eq_true.1 hks _ (List.getElem_mem hlt)) h1.1
 have IU:fw kk (view kv)=true/\view kv=kv:=by cases kv<;>cases kk<;>simp_all [fw,view]
 rw[IU.2]at hK
 obtain⟨f1,f2⟩:=xV hkk hvk es gM.toList (by simpa using hsz) (fun j p y hp hy=>z6 j p y hp (by simpa using hy)) hks
 have jU:=Go.MapKept.run_getObj_map (P:=P) hh
 have hck:=bk.check w false _ hkv
 have oH:∀(τ:St)(w':World),Inv G n D τ a w'->Inv G n D (τ.put d (.gb [])) (a.put d undef) w':=by
  intro τ w' hτ
  have:=hτ.put (s':=τ.s) (lp':=τ.lp) d (fun i hi=>by subst hi;simpa[aS]using hd) (.gb []) undef hτ.aJ (az.refl G w') hτ.store (fun _ hx=>hx) (fun i t _ ht=>ht.elim) (fun i t _⟨cs,hcs⟩=>by cases hcs)
   (fun _ _ _ _=>⟨rfl,rfl,rfl⟩) (fun _ _ _ _ _ _ hcc=>⟨hcc,rfl,rfl⟩) (fun i hdi=>⟨#[],rfl,rfl,fun j x y hx=>by simp at hx⟩)
  cases d<;>exact this
 intro pos after gd next Q hn
 rcases bk.find w _ hkv gM.toList cE with⟨q1,q2⟩|⟨m,e,q1,q2,q3,q4⟩
 ·obtain⟨_,g2⟩:=f1 q2
  rw[g2]at hK
  obtain⟨h1,h2⟩:=h.Uw (nR:=clock+1) (qk:=gM.push {key:=a.eval j,val:=a.eval u,born:=clock}) (es':=es++[(kv,view vv)]) hh ho hR ⟨by simp[hsz],fun i p z hp hz=>by
   rw[Array.getElem?_push]at hz
   by_cases hi':i=es.length
   ·subst hi'
    rw[if_pos hsz.symm]at hz
    simp at hp
    injection hz with hz
    subst hp;subst hz
    exact⟨hvk,hvv.view⟩
   ·rw[if_neg (by omega)]at hz
    have hlt:i<es.length:=by
     have:=(List.getElem?_eq_some_iff.1 hp).1
     simp at this;omega
    rw[List.getElem?_append_left hlt]at hp
    exact z6 i p z hp hz⟩
  refine px (w':=_) ?_ (hn G _ _ _ (oH _ _ h1) h2 hK)
  simp[execOp,Instr.mapUpdate,run_underlying ht,e1,jU,hck,q1,run_setObj_map _ hh]
 ·obtain⟨p,g1,_,g2⟩:=f2 m e q2 q3 q4
  rw[g2]at hK
  have afh:m<gM.size:=by have:=(List.getElem?_eq_some_iff.1 q2).1;simpa using this
  have hem:gM[m]? =some e:=by simpa using q2
  have cj:=bk.stays w _ hkv
  obtain⟨h1,h2⟩:=h.Uw (nR:=clock) (qk:=gM.modify m fun e=>{e with key:=a.eval j,val:=a.eval u}) (es':=es.set m (kv,view vv)) hh ho hR ⟨by simp[hsz],fun i p z hp hz=>by
   rw[Array.getElem?_modify]at hz
   by_cases hi':m=i
   ·subst hi'
    rw[if_pos rfl,hem]at hz
    simp at hz
    rw[List.getElem?_set_self (by omega)]at hp
    injection hp with hp
    subst hp;subst hz
    exact⟨hvk,hvv.view⟩
   ·rw[if_neg hi']at hz
    rw[List.getElem?_set_ne hi']at hp
    exact z6 i p z hp hz⟩
  refine px (w':=_) ?_ (hn G _ _ _ (oH _ _ h1) h2 hK)
  simp[execOp,Instr.mapUpdate,run_underlying ht,e1,jU,hck,q1,hem,q3,cj,run_setObj_map _ hh]
theorem Ko(h:Inv G n D E a w){op:Op}{ty:TypeId}{x:IX}{d:Option Nat}{K:St->Prop}(hd:aS n d=true)(hc:aq P op ty (.jg x)=true)(hw:gz P (.jg x) d E K):mr P G n D w a op ty d K:=by
 cases op<;>first|(simp[aq]at hc;done)|skip
 rename_i s t y
 cases x with
 |c _=>simp[aq]at hc
 |t i=>
 simp only[aq,Bool.and_eq_true,beq_iff_eq]at hc
 obtain⟨⟨hy,rfl⟩,hc⟩:=hc
 split at hc<;>try(cases hc;done)
 rename_i e ht
 split at hc<;>try(cases hc;done)
 rename_i he
 have hw':K6 E d K (AA (xg true E (.t i))):=hw
 have gJ:∃m x0 cs cs',cs=.int .u8 x0::cs'/\xg true E (.t i)=.sl true 1 (m+1) cs/\K (E.put d (.sl false 1 (m+1) cs)):=by
  generalize xg true E (.t i)=xv at hw'
  unfold AA at hw'
  split at hw'
  ·exact⟨_,_,_,_,rfl,rfl,hw'⟩
  ·exact hw'.elim
 obtain⟨m,x0,cs,cs',hcs,hx,hK⟩:=gJ
 have hx':look E.e i=.sl true 1 (m+1) cs\/look E.e i=.when true (.sl true 1 (m+1) cs):=by
  have hx2:vz true (look E.e i)=.sl true 1 (m+1) cs:=hx
  generalize look E.e i=av at hx2
  cases av<;>first|exact .inl hx2|skip
  rename_i b a'
  have hx2:(bif(b==true||b)&&inner a' then a' else .undef)=.sl true 1 (m+1) cs:=hx2
  cases b with
  |false=>simp at hx2
  |true=>
   refine .inr ?_
   cases hin:inner a' with
   |false=>rw[hin]at hx2;simp at hx2
   |true=>rw[hin]at hx2;simp at hx2;rw[hx2]
 have hin:i<n:=h.Jk (fun e=>by rcases hx' with h'|h'<;>rw[h']at e<;>cases e)
 have hey:a.tmps[i]? =some (a.eval y):=by
  have hyy:y=.tmp i:=by
   cases y<;>simp[bp]at hy
   rw[hy]
  subst hyy
  exact fh (by rw[h.size];exact hin)
 have hsl:VR w G.R (.sl true 1 (m+1) cs) (a.eval y)/\cQ G w (.slot i 0) (.sl true 1 (m+1) cs) (a.eval y):=by
  have hs:=h.bO i _ hey
  rcases hx' with h'|h'<;>rw[h']at hs
  ·exact hs
  ·exact hs.1 rfl
 obtain⟨hvr,qI⟩:=hsl
 rcases VR.fD hvr with⟨_,hm0,_⟩|⟨b0,Wu,Zc,e1,hl,hR,fQ,hat⟩
 ·omega
 obtain⟨b,off,c,et,fz,q1,q2,q3,q4,q5,q6⟩:=qI _ _ _ e1 (.inr (by omega))
 injection q1 with q1;injection q1 with q1 q1' _
 subst q1;subst q1'
 let fz':Nat×Nat:=if fz.1==fz.2 then(c.size,c.size+1)else(min fz.1 c.size,max fz.2 (c.size+1))
 let w':World:=w.freeze ⟨b0,c.size,none⟩ 1
 have hlt:b0<w.heap.size:=(Array.getElem?_eq_some_iff.1 q4).1
 have hb0:w'.heap[b0]? =some (.cells c et fz'):=by
  show(w.freeze ⟨b0,c.size,none⟩ 1).heap[b0]? =_
  unfold World.freeze
  simp only[Nat.succ_ne_self,if_false,Array.getElem?_modify,if_true,q4,Option.map_some]
  rfl
 have Gl:∀k,k≠b0->w'.heap[k]? =w.heap[k]? :=by
  intro k hk
  show(w.freeze ⟨b0,c.size,none⟩ 1).heap[k]? =_
  unfold World.freeze
  simp only[Nat.succ_ne_self,if_false,Array.getElem?_modify]
  rw[if_neg (Ne.symm hk)]
 have hsz:w'.heap.size=w.heap.size:=by
  show(w.freeze ⟨b0,c.size,none⟩ 1).heap.size=_
  unfold World.freeze
  simp
 have cS:∀b k,w'.cell? ⟨b,k,none⟩=w.cell? ⟨b,k,none⟩:=by
  intro k j
  by_cases hk:k=b0
  ·subst hk
   unfold World.cell?
   simp only[hb0,q4]
  ·exact World.cell?_of_block (Gl k hk)
 have hfz:∀k,k<c.size->¬(fz'.1<=k/\k<fz'.2):=by
  intro k hk
  show¬((if fz.1==fz.2 then(c.size,c.size+1)else(min fz.1 c.size,max fz.2 (c.size+1)):Nat×Nat).1<=k/\k<(if fz.1==fz.2 then(c.size,c.size+1)else(min fz.1 c.size,max fz.2 (c.size+1)):Nat×Nat).2)
  by_cases hf:fz.1=fz.2
  ·simp only[hf,beq_self_eq_true,if_true];omega
  ·have:(fz.1==fz.2)=false:=by simpa using hf
   rw[this]
   simp only[Bool.false_eq_true,if_false]
   intro hh
   have q7:=q6.2
   by_cases hc2:fz.1<c.size
   ·exact q6.1 fz.1 hc2 ⟨Nat.le_refl _,by omega⟩
   ·omega
 have adE:fz'.1<=fz'.2:=by
  show(if fz.1==fz.2 then(c.size,c.size+1)else(min fz.1 c.size,max fz.2 (c.size+1)):Nat×Nat).1<=(if fz.1==fz.2 then(c.size,c.size+1)else(min fz.1 c.size,max fz.2 (c.size+1)):Nat×Nat).2
  split
  ·show c.size<=c.size+1;omega
  ·show min fz.1 c.size<=max fz.2 (c.size+1);omega
 have hp:az G w G w':=⟨rfl,rfl,rfl,Nat.le_refl _,by rw[hsz];exact Nat.le_refl _,fun _ _=>Nat.le_refl _,fun b k _ _=>cS b k,fun b _ hb=>Gl b (fun e=>by subst e;rw[q2]at hb;rcases hb with hb|hb<;>cases hb),fun _ _ h=>⟨h,rfl⟩,fun _ _ h=>⟨h,rfl⟩⟩
 have hne:∀k,G.O k≠.slot i 0->w'.heap[k]? =w.heap[k]? :=fun k hk=>Gl k fun e=>hk (by rw[e];exact q2)
 have hI:Inv G n D E a w':=by
  refine⟨⟨fun c hc=>h.aJ.ik c (by rw[hsz]at hc;exact hc),fun c hc=>h.aJ.iT c (by rw[hsz]at hc;exact hc)⟩,?_,h.size,fun k v hk=>?_,h.DE,h.JX,h.qG⟩
  ·exact h.store.mono h.aJ hp (fun b hb=>⟨hb,rfl,hne b (by rw[hb];simp)⟩) (fun b c j _ hc=>⟨hc,rfl,hne c (by rw[hc];simp)⟩)
  ·by_cases hki:k=i
   ·subst hki
    have hv:v=a.eval y:=by rw[hey]at hk;exact(Option.some.inj hk).symm
    subst hv
    have hO:cQ G w' (.slot k 0) (.sl true 1 (m+1) cs) (a.eval y):=by
     intro base m' dL hv hc
     rw[e1]at hv
     injection hv with v1 v2 v3
     exact⟨b0,Wu,c,et,fz',v1.symm,q2,q3,hb0,by rw[q5,v3],hfz,adE,q6.2.2.1,.inr ⟨Nat.succ_pos _,x0,by
      obtain⟨u,u1,u2,_⟩:=hat
      have k1:=u1 0 (.int .u8 x0) (by rw[hcs];rfl)
      have k2:=VR.bT (u2 0 (.int .u8 x0) (by rw[hcs];rfl))
      rw[q6.2.2.1,cell_of_row w q4,k2]at k1
      exact k1⟩,q6.2.2.2.2⟩
    have hV:cN G w' E.e a.tmps k (.sl true 1 (m+1) cs) (a.eval y):=⟨hp.vr h.aJ hvr,hO⟩
    rcases hx' with h'|h'<;>rw[h']
    ·exact hV
    ·exact⟨fun _=>hV,fun h=>by cases h⟩
   ·exact cN.frame (fun _ _ hv=>hp.vr h.aJ hv) (fun c hc=>⟨rfl,rfl,hne c (by rcases hc with⟨j,hc⟩|hc<;>rw[hc]<;>simp[hki])⟩) (fun c c' j _ hc=>⟨hc,rfl,hne c' (by rw[hc];simp)⟩) _ _ (fun d _ cs hcs=>⟨cs,hcs,rfl⟩) (h.bO k v hk)
 have qH:Inv G n D (E.put d (.sl false 1 (m+1) cs)) (a.put d (a.eval y)) w':=hI.Jx hd (av:=.sl true 1 (m+1) cs) rfl (hp.vr h.aJ hvr)
 intro pos after gd next Q hn
 refine aI (v:=a.eval y) (w':=w') ?_ (hn G _ _ _ qH hp hK)
 have KD:w.shape? b0=some (et,c.size):=by
  unfold World.shape?
  rw[q4]
 have Pa:(convert s s (.slice (some ⟨b0,Wu,none⟩) (m+1) Zc)).run P w=.ok (.slice (some ⟨b0,Wu,none⟩) (m+1) Zc) w':=by
  simp[convert,run_underlying ht,run_underlying he,markStringish,KD]
  rfl
 simp[execOp,e1,Pa]
theorem OS(h:Inv G n D E a w){op:Op}{ty:TypeId}{x:IX}{d:Option Nat}{K:St->Prop}(hd:aS n d=true)(hc:aq P op ty (.qP x)=true)(hw:gz P (.qP x) d E K):mr P G n D w a op ty d K:=by
 have hw':K6 E d K (zk (xg true E x)):=hw
 have key:∀y,bp y x=true->∃vs,K (E.put d (.gb (views vs)))/\Inv G n D (E.put d (.gb (views vs))) (a.put d (a.eval y)) w:=by
  intro y hy
  have hb:=BR.aG h hy
  generalize xg true E x=xv at hb hw'
  unfold zk at hw'
  split at hw'<;>try(exact hw'.elim)
  rename_i vs
  refine⟨vs,hw',?_⟩
  obtain⟨ys,e,hl,hr⟩:=VR.LX (show VR w G.R (.gb vs) (a.eval y) from hb)
  have:=h.put (s':=E.s) (lp':=E.lp) d (fun i hi=>by subst hi;simpa[aS]using hd) (.gb (views vs)) (a.eval y) h.aJ (az.refl G w) h.store (fun _ hx=>hx) (fun i t _ ht=>ht.elim) (fun i t _⟨cs,hcs⟩=>by cases hcs)
   (fun _ _ _ _=>⟨rfl,rfl,rfl⟩) (fun _ _ _ _ _ _ hcc=>⟨hcc,rfl,rfl⟩) (fun i hdi=>⟨ys,e,by simpa[views]using hl,fun j x y hx hy=>by
     rw[dH]at hx
     cases hj:vs[j]? with
     |none=>rw[hj]at hx;cases hx
     |some c=>
      rw[hj]at hx
      simp at hx
      subst hx
      exact⟨(hr j c y hj hy).view,cQ.view ..⟩⟩)
  cases d<;>exact this
 intro pos after g next Q hn
 cases op<;>first|(simp[aq]at hc;done)|skip
 ·rename_i y
  obtain⟨vs,h1,h2⟩:=key y hc
  exact aI rfl (hn G _ _ _ h2 (az.refl G w) h1)
 ·rename_i y
  obtain⟨vs,h1,h2⟩:=key y hc
  exact aI rfl (hn G _ _ _ h2 (az.refl G w) h1)
end
end Go.AB
end
section
namespace Go.AB
open Go
section
variable{P:Program}{G G':Gh}{n:Nat}{D:List Deferred}{E:St}{a:Act}{w w':World}
theorem aO.at(h:aO G w E.s){b off m:Nat}{cs:List AV}(hs:E.s b=some (.cells cs))(cF:off+m<=cs.length):At w G.R b off (AB.views (AB.sub cs off m)):=by
 obtain⟨_,_,c,t,h4,h5,h6⟩:=h b _ hs
 have hat:=(At.Fc h4 h5 h6).sub off m
 rwa[Nat.zero_add,FC]at hat
structure qC(P:Program)(w:World)(R:Nat->Nat)(sz m:Nat)(ds:List AV)(v:Value)(news:List Value):Prop where
 len:news.length=m*sz
 nW:ds.length=m*sz
 lenOf:∀w',(Builtin.lenOf v).run P w'=.ok m w'
 first:∀k,k<=m->∀w',w'.heap=w.heap->(Builtin.firstCells sz k v).run P w'=.ok (news.take (k*sz)).toArray w'
 one:∀u∈news,u.oneCell'=true
 ki:∀(j:Nat)(c:AV)(u:Value),ds[j]? =some c->news[j]? =some u->VR w R c u
 fl:Fl ds
 vw:views ds=ds
theorem nK(ds:List AV):views (views ds)=views ds:=by
 unfold views
 rw[List.map_map]
 apply List.map_congr_left
 intro a _
 cases a<;>rfl
theorem qC.src{R:Nat->Nat}{sz m:Nat}{ds:List AV}{v:Value}{news:List Value}(h:qC P w R sz m ds v news):Src P w R sz m ds v news:=⟨h.len,h.nW,h.lenOf,fun w' hw'=>by rw[h.first m (Nat.le_refl m) w' hw',List.take_of_length_le (by rw[h.len];exact Nat.le_refl _)],h.one,h.ki,h.fl⟩
theorem qC.Ug{R:Nat->Nat}{sz m b off cap:Nat}{cs:List AV}(hl:cs.length=m*sz)(hat:At w R b off cs):∃news,qC P w R sz m (views cs) (.slice (some ⟨b,off,none⟩) m cap) news:=by
 have O8:=hat.views
 obtain⟨us,h1,h2,h3⟩:=O8.ki
 have hfl:Fl (views cs):=by obtain⟨_,_,_,hf⟩:=O8;exact hf
 have hlen:(views cs).length=m*sz:=by simp[views,hl]
 refine⟨us,by rw[h1,hlen],hlen,fun _=>rfl,fun k hk w' hw'=>?_,fun u hu=>?_,h3,hfl,nK cs⟩
 ·have hkl:k*sz<=us.length:=by rw[h1,hlen];exact Nat.mul_le_mul_right _ hk
  exact run_firstCells_some w' sz k ⟨b,off,none⟩ m cap (us.take (k*sz)) (by simp;omega) fun j v hj=>by
   rw[xP hw']
   rw[List.getElem?_take]at hj
   split at hj
   ·exact h2 j v hj
   ·cases hj
 ·obtain⟨j,hj⟩:=List.mem_iff_getElem?.1 hu
  have hlt:j<(views cs).length:=by rw[<-h1];exact(List.getElem?_eq_some_iff.1 hj).1
  have hx:=List.getElem?_eq_getElem hlt
  exact gA (hfl _ (List.getElem_mem hlt)) (h3 j _ u hx hj)
theorem qC.none{R:Nat->Nat}{sz:Nat}:qC P w R sz 0 [] (.slice none 0 0) []:=
 ⟨by simp,by simp,fun _=>rfl,fun k hk w' _=>by
   have:k=0:=by omega
   subst this;simp[Builtin.firstCells],fun u hu=>by simp at hu,fun j c u hc=>by simp at hc,Fl.nil,rfl⟩
theorem qC.empty{R:Nat->Nat}{sz cap:Nat}{base:Option Addr}:qC P w R sz 0 [] (.slice base 0 cap) []:=
 ⟨by simp,by simp,fun _=>rfl,fun k hk w' _=>by
   have:k=0:=by omega
   subst this
   cases base with
   |none=>simp[Builtin.firstCells]
   |some x=>
    obtain⟨b,off,sp⟩:=x
    simp[Builtin.firstCells,loadCells,loadCellsFrom],fun u hu=>by simp at hu,fun j c u hc=>by simp at hc,Fl.nil,rfl⟩
theorem qC.str{R:Nat->Nat}{l:List UInt8}:qC P w R 1 l.length (l.map fun c=>.int .u8 c.toNat) (.string ⟨l.toArray⟩) (l.map fun c=>.int .u8 c.toNat)where
 len:=by simp
 nW:=by simp
 lenOf:=fun w'=>by simp[Builtin.lenOf,ByteArray.size]
 first:=fun k hk w' _=>by
  have:((ByteArray.mk l.toArray).extract 0 k).data=(l.take k).toArray:=by
   rw[ByteArray.data_extract]
   apply Array.ext'
   simp
  simp[Builtin.firstCells,this,List.map_take]
 one:=(Src.G6 (P:=P) (w:=w) (R:=R)).one
 ki:=(Src.G6 (P:=P) (w:=w) (R:=R)).ki
 fl:=Bx l
 vw:=by simp[views,view]
theorem pF{m sz off:Nat}{o:Option SO}{k:Nat}{ds:List AV}(h:iZ m sz off o=some (k,ds)):∃cs,o=some (.cells cs)/\off+m*sz<=cs.length/\k=m/\ds=views (AB.sub cs off (m*sz)):=by
 unfold iZ at h
 split at h
 ·rename_i cs
  by_cases hl:off+m*sz<=cs.length
  ·rw[decide_eq_true hl]at h;injection h with h;injection h with h1 h2;exact⟨cs,rfl,hl,h1.symm,h2.symm⟩
  ·rw[decide_eq_false hl]at h;cases h
 ·cases h
theorem Dh(h:Inv G n D E a w){sz m:Nat}{x:IX}{o:Operand}{ds:List AV}(hx:bp o x=true)(hs:tO E.s sz (E.x x)=some (m,ds)):∃news,qC P w G.R sz m ds (a.eval o) news:=by
 have hb:=XR.aG h hx
 generalize E.x x=av at hb hs
 unfold tO at hs
 split at hs
 ·rename_i ow s' k cs
  by_cases he:s'=sz
  ·subst he
   rw[beq_self_eq_true]at hs
   injection hs with hs;injection hs with h1 h2;subst h1;subst h2
   rcases VR.fD hb with⟨e0,rfl,rfl⟩|⟨b,off,cap,e,hl,_,_,hat⟩
   ·obtain⟨_,_,e⟩:=e0.ex
    rw[e];exact⟨[],qC.empty⟩
   ·rw[e];exact qC.Ug hl hat
  ·rw[show(s'==sz)=false by simpa using he]at hs
   by_cases hk:k=0
   ·subst hk
    injection hs with hs;injection hs with h1 h2;subst h1;subst h2
    rcases VR.fD hb with⟨(e|⟨_,_,_,e⟩),_,_⟩|⟨b,off,cap,e,_⟩<;>rw[e]<;>exact⟨[],qC.empty⟩
   ·rw[show(k==0)=false by simpa using hk]at hs;cases hs
 ·rename_i l
  by_cases he:sz=1
  ·subst he
   rw[beq_self_eq_true]at hs
   injection hs with hs;injection hs with h1 h2;subst h1;subst h2
   rw[VR.eV hb];exact⟨_,qC.str⟩
  ·rw[show(sz==1)=false by simpa using he]at hs;cases hs
 ·rename_i b off k cap
  by_cases hk:k=0
  ·subst hk
   injection hs with hs;injection hs with h1 h2;subst h1;subst h2
   rcases VR.cc hb with e|⟨_,_,e⟩<;>rw[e]<;>exact⟨[],qC.empty⟩
  ·rw[show(k==0)=false by simpa using hk]at hs
   obtain⟨cs,e1,e2,rfl,rfl⟩:=pF hs
   rcases VR.cc hb with e|⟨h0,_,_⟩
   ·rw[e]
    have hsn:=qC.Ug (P:=P) (cap:=cap) (show(AB.views (AB.sub cs off (m*sz))).length=m*sz by simp[views,ja e2]) (h.store.at e1 e2)
    rwa[nK]at hsn
   ·exact absurd h0 hk
 ·cases hs
theorem Inv.vp(h:Inv G n D E a w){b off:Nat}{cs ds:List AV}{news:List Value}{c:Array Value}{t:TypeId}(hs:E.s b=some (.cells cs))(hb:w.heap[b]? =some (.cells c t (0,0)))
 (hlen:news.length=ds.length)(cF:off+ds.length<=cs.length)(hfl:Fl ds)(hvw:views ds=ds)(oJ:∀(j:Nat)(x:AV)(y:Value),ds[j]? =some x->news[j]? =some y->VR w G.R x y):
 Inv G n D {E with s:=E.s.set b (.cells (setAt cs off ds))} a (w.setRow b (laid c off news))/\az G w G (w.setRow b (laid c off news)):=by
 obtain⟨q2,q3,c',t',q4,q5,q6⟩:=h.store b _ hs
 rw[hb]at q4;injection q4 with q4;injection q4 with q4 q4' _
 subst q4;subst q4'
 have hne:∀j,G.O b≠.cell b j:=fun j=>by rw[q2];simp
 have aV:az G w G (w.setRow b (laid c off news)):=az.write hb (by rw[q2];simp) (fun k hk=>by rw[q3]at hk;omega) (Nat.le_refl _) (fun _ _=>⟨rfl,rfl⟩)
 have gq:=cP.lay hb aV h.aJ q5 hlen cF hne (fun j x y hx hy=>⟨oJ j x y hx hy,by
  rw[<-hvw,dH]at hx
  cases hz:ds[j]? with
  |none=>rw[hz]at hx;cases hx
  |some x'=>rw[hz]at hx;simp at hx;rw[<-hx];exact cQ.view ..⟩)
 have cj:aO G (w.setRow b (laid c off news)) (E.s.set b (.cells (setAt cs off ds))):=by
  intro b' o hb'
  unfold ab.set at hb'
  by_cases hbg:b'=b
  ·rw[if_pos hbg]at hb';injection hb' with hb';subst hb';subst hbg
   exact⟨q2,q3,_,t,setRow_heap w b' c _ t _ hb,gq,xH.setAt q6 hfl off⟩
  ·rw[if_neg hbg]at hb'
   obtain⟨r1,r2,r3⟩:=h.store b' o hb'
   refine⟨r1,r2,?_⟩
   have hbk:=setRow_other w b b' (laid c off news) hbg
   cases o with
   |cells cs=>
    obtain⟨c0,t0,r4,r5,r6⟩:=r3
    exact⟨c0,t0,hbk.trans r4,r5.mono (fun _ _ hv=>aV.vr h.aJ hv) (fun b'' j kl=>⟨kl,rfl,setRow_other w b b'' _ (fun e=>by subst e;rw[q2]at kl;cases kl)⟩),r6⟩
   |map es=>
    obtain⟨gM,clock,r4,r5,r6⟩:=r3
    exact⟨gM,clock,hbk.trans r4,r5,fun j x y hx hy=>⟨aV.vr h.aJ (r6 j x y hx hy).1,aV.vr h.aJ (r6 j x y hx hy).2⟩⟩
 obtain⟨h2,_⟩:=h.written (E':={E with s:=E.s.set b (.cells (setAt cs off ds))}) hb (.inr q2) q3 rfl cj (fun k=>.inl ⟨rfl,by rw[q2];simp⟩)
 exact⟨h2,aV⟩
theorem Inv.Jy(h:Inv G n D E a w){d:Option Nat}(hd:aS n d=true){av:AV}{v:Value}(hi:cO av=true)(hv:VR w G.R av v)(IU:view av=av):Inv G n D (E.put d av) (a.put d v) w:=by
 have:=h.put (s':=E.s) (lp':=E.lp) d (fun i hi=>by subst hi;simpa[aS]using hd) av v h.aJ (az.refl G w) h.store (fun _ hx=>hx) (fun i t _ ht=>(dN hi t ht).elim) (fun i t _⟨cs,hcs⟩=>(l8 hi cs hcs).elim)
  (fun _ _ _ _=>⟨rfl,rfl,rfl⟩) (fun _ _ _ _ _ _ hcc=>⟨hcc,rfl,rfl⟩) (fun i hdi=>by
    rw[cN.nZ hi]
    refine⟨hv,?_⟩
    rw[<-IU];exact cQ.view ..)
 cases d<;>exact this
theorem Inv.Wz(h:Inv G n D E a w){d:Option Nat}(hd:aS n d=true):Inv G n D (E.put d (.gb [])) (a.put d (.tuple #[])) w:=by
 have:=h.put (s':=E.s) (lp':=E.lp) d (fun i hi=>by subst hi;simpa[aS]using hd) (.gb []) (.tuple #[]) h.aJ (az.refl G w) h.store (fun _ hx=>hx) (fun i t _ ht=>ht.elim) (fun i t _⟨cs,hcs⟩=>by cases hcs)
  (fun _ _ _ _=>⟨rfl,rfl,rfl⟩) (fun _ _ _ _ _ _ hcc=>⟨hcc,rfl,rfl⟩) (fun i hdi=>⟨#[],rfl,rfl,fun j x y hx=>by simp at hx⟩)
 cases d<;>exact this
theorem Ga(h:Inv G n D E a w){op:Op}{ty:TypeId}{sz m:Nat}{z:List AV}{ps:List (Nat×Nat×IX)}{d:Option Nat}{K:St->Prop}(hd:aS n d=true)(hc:aq P op ty (.jP sz m z ps)=true)(hw:gz P (.jP sz m z ps) d E K):mr P G n D w a op ty d K:=by
 cases op<;>first|(simp[aq]at hc;done)|skip
 rename_i t m' qs
 simp only[aq,Bool.and_eq_true,beq_iff_eq]at hc
 obtain⟨rfl,hc⟩:=hc
 split at hc<;>try(cases hc;done)
 rename_i e ht
 have ht:=cz ht
 simp only[Bool.and_eq_true]at hc
 obtain⟨⟨⟨⟨hs,gQ⟩,hp⟩,Pg⟩,hz⟩:=hc
 obtain⟨i,hi,oG⟩:=jF hs
 rw[hi]at hz
 simp only at hz
 split at hz<;>try(cases hz;done)
 rename_i zv hzv
 simp only[Bool.and_eq_true,beq_iff_eq]at hz
 obtain⟨hzr,hzs⟩:=hz
 have gQ:=of_decide_eq_true gQ
 have Pg:=of_decide_eq_true Pg
 have hw':sO sz m E d K (fill (xg true E) z ps):=hw
 cases hfl:fill (xg true E) z ps with
 |none=>rw[hfl]at hw';exact hw'.elim
 |some ds=>
  rw[hfl]at hw'
  obtain⟨hlen,hk⟩:=hw'
  obtain⟨hl,hpa⟩:=vj _ _ hp
  obtain⟨hz1,hz2⟩:=AW hzr
  have gJ:Row w G.R z ((Array.range (m*sz)).map (zv.cells[·% zv.cells.size]!)):=by
   rw[<-hzs,sI]
   exact⟨by simpa using hz1,fun j c u hc hu=>q9 (hz2 j c u hc (by simpa using hu)) w G.R,BA hzr⟩
  have hf:∀(o:Operand)(x:IX),bp o x=true->cO (xg true E x)=true->VR w G.R (xg true E x) (a.eval o):=fun o x hx hi=>by
   have:=BR.aG h hx
   generalize xg true E x=av at hi this
   cases av<;>first|exact this|(simp[cO]at hi)
  obtain⟨us,h1,h2⟩:=pL h hf (fun i=>some (i*sz,sz)) qs.toList ps z ds _ ⟨hl,fun j q p hq hp'=>by
   obtain⟨⟨e1,e2⟩,hx⟩:=hpa j q p hq hp'
   exact⟨by rw[e1,e2],hx⟩⟩ gJ hfl
  obtain⟨G1,h3,h4⟩:=h.KU (t:=e) (c:=us) (cs:=views ds) hd (.inr ⟨m,m,rfl,rfl⟩) (fun G' w' o hp=>lF (h2.mono fun _ _ hv=>hp.vr h.aJ hv)) h2.2.2.views
  intro pos after gd next Q hn
  refine aI ?_ (hn G1 _ _ _ h3 h4 (hk w.heap.size (h.store.get_none h.aJ)))
  by_cases hm0:m*sz=0
  ·have hm:m=0:=by
    rcases Nat.mul_eq_zero.1 hm0 with h|h
    ·exact h
    ·omega
   subst hm
   simp only[Nat.zero_mul]at h1
   have:(Array.range 0).map (zv.cells[·% zv.cells.size]!)= #[]:=by simp
   rw[this]at h1
   have hr0:Array.map (fun _:Nat=>(default:Value)) (Array.range 0)= #[]:=by apply Array.ext';simp
   simp[execOp,Instr.buildSlice,run_underlying ht,run_sizeOf hs,hr0,h1,newRow]
  ·have h24:¬(16777216<m*sz):=by omega
   simp[execOp,Instr.buildSlice,run_underlying ht,run_sizeOf hs,h24,hm0,zeroValue,typeInfo,hi,hzv,h1,newRow]
end
section
variable{P:Program}{G G':Gh}{n:Nat}{D:List Deferred}{E:St}{a:Act}{w w':World}
theorem zb(cs:List AV)(k:Nat):setAt cs k []=cs:=by simp[setAt]
theorem nf{s:ab}{b:Nat}{o:SO}(h:s b=some o):s.set b o=s:=by
 funext i
 unfold ab.set
 split
 ·rename_i e;subst e;exact h.symm
 ·rfl
theorem yG{sz b off cap:Nat}{o:Option SO}(h:yF sz b off cap o):∃cs,o=some (.cells cs)/\off+cap*sz<=cs.length:=by
 unfold yF at h
 split at h
 ·exact⟨_,rfl,h⟩
 ·exact h.elim
theorem sJ{e:TypeId}{z:List AV}(hz:ni P e z=true):∃v:Value,(∀w,(zeroValue e).run P w=.ok v w)/\(∃i,P.info? e=some i/\i.zero=some v/\i.size=z.length)/\∀(q:Nat),(Builtin.zeroCells v.cells q).toList.length=q*z.length/\(List.replicate q z).flatten.length=q*z.length/\
 (∀(j:Nat)(x:AV)(y:Value),(List.replicate q z).flatten[j]? =some x->(Builtin.zeroCells v.cells q).toList[j]? =some y->cR y x=true)/\Fl (List.replicate q z).flatten/\(∀y∈(Builtin.zeroCells v.cells q).toList,y.oneCell'=true):=by
 obtain⟨i,v,h1,h2,h3,h4,h5⟩:=tv hz
 refine⟨v,fun w=>by simp[zeroValue,typeInfo,h1,h2],⟨i,h1,h2,h3⟩,fun q=>?_⟩
 have e0:Builtin.zeroCells v.cells q=((List.replicate q v.cells.toList).flatten).toArray:=sI v.cells q
 rw[e0]
 have h4:=h4 default fun _=>0
 have hlz:v.cells.toList.length=z.length:=by simpa using h4.1
 have BN:∀y∈v.cells.toList,y.oneCell'=true:=by
  intro y hy
  obtain⟨j,hj⟩:=List.mem_iff_getElem?.1 hy
  have hlt:j<z.length:=by rw[<-hlz];exact(List.getElem?_eq_some_iff.1 hj).1
  exact gA (h4.2.2 _ (List.getElem_mem hlt)) (h4.2.1 j _ y (List.getElem?_eq_getElem hlt) (by simpa using hj))
 have hlen:∀(α:Type)(l:List α),(List.replicate q l).flatten.length=q*l.length:=fun α l=>by simp
 refine⟨by show(List.replicate q v.cells.toList).flatten.length=_;rw[hlen,hlz],hlen _ z,?_,?_,?_⟩
 ·show∀(j:Nat)(x:AV)(y:Value),(List.replicate q z).flatten[j]? =some x->(List.replicate q v.cells.toList).flatten[j]? =some y->cR y x=true
  clear e0 hlen
  induction q with
  |zero=>intro j x y hx;simp at hx
  |succ q ih=>
   intro j x y hx hy
   simp only[List.replicate_succ,List.flatten_cons]at hx hy
   by_cases hj:j<z.length
   ·rw[List.getElem?_append_left hj]at hx
    rw[List.getElem?_append_left (by omega)]at hy
    exact h5 j x y hx (by simpa using hy)
   ·rw[List.getElem?_append_right (by omega)]at hx
    rw[List.getElem?_append_right (by omega),hlz]at hy
    exact ih _ x y hx hy
 ·intro x hx
  simp only[List.mem_flatten,List.mem_replicate]at hx
  obtain⟨l,⟨_,rfl⟩,hm⟩:=hx
  exact h4.2.2 x hm
 ·intro y hy
  simp only[List.mem_flatten,List.mem_replicate]at hy
  obtain⟨l,⟨_,rfl⟩,hm⟩:=hy
  exact BN y hm
theorem Iu(h:Inv G n D E a w){op:Op}{ty:TypeId}{sz by':Nat}{z:List AV}{x y:IX}{d:Option Nat}{K:St->Prop}(hd:aS n d=true)(hc:aq P op ty (.fL sz by' z x y)=true)(hw:gz P (.fL sz by' z x y) d E K):mr P G n D w a op ty d K:=by
 cases op<;>first|(simp[aq]at hc;done)|skip
 rename_i c
 simp only[aq]at hc
 split at hc<;>try(cases hc;done)
 rename_i u v t t' hb
 have hce:=nN hb
 subst hce
 simp only[Bool.and_eq_true]at hc
 obtain⟨⟨hu,hv⟩,hc⟩:=hc
 split at hc<;>try(cases hc;done)
 rename_i e ht
 have ht:=cz ht
 simp only[Bool.and_eq_true]at hc
 obtain⟨⟨⟨⟨⟨⟨hs,hby⟩,gQ⟩,oF⟩,hzl⟩,hzi⟩,ht'⟩:=hc
 obtain⟨i,hi,oG⟩:=jF hs
 obtain⟨zv,_,⟨i1,hi1,hz,hz1⟩,RS⟩:=sJ hzi
 rw[hi]at hi1;injection hi1 with hi1;subst hi1
 have gQ:=of_decide_eq_true gQ
 have oF:=of_decide_eq_true oF
 have hby:i.bytes=by':=by
  unfold jQ at hby
  rw[hi]at hby
  simpa using hby
 have ht2:(∃e',P.underlying t'=some (.slice e'))\/P.underlying t'=some .string:=by
  rcases Bool.or_eq_true .. ▸ht' with h|h
  ·cases he:cq P t' with
   |none=>rw[he]at h;cases h
   |some e'=>exact .inl ⟨e',cz he⟩
  ·exact .inr (xw h)
 have hw':dK sz by' z E d K (E.x x) (tO E.s sz (E.x y)):=hw
 have hbx:=XR.aG h hu
 generalize E.x x=xv at hw' hbx
 cases hsv:tO E.s sz (E.x y)with
 |none=>rw[hsv]at hw';unfold dK at hw';split at hw'<;>first|(rename_i hh;cases hh;done)|exact hw'.elim
 |some md=>
 obtain⟨m,ds⟩:=md
 rw[hsv]at hw'
 obtain⟨news,Pq⟩:=Dh (P:=P) h hv hsv
 have c6:=Pq.src
 unfold dK at hw'
 split at hw'<;>try(exact hw'.elim)
 rename_i b off k cap _ _ he0
 injection he0 with he0;injection he0 with e1 e2;subst e1;subst e2
 cases hol:mU E.s sz b off k with
 |none=>rw[hol]at hw';exact hw'.elim
 |some olds=>
 rw[hol]at hw'
 obtain⟨VJ,TY,BM⟩:=hw'
 have hold:k=0/\olds=[]\/∃cs,E.s b=some (.cells cs)/\off+k*sz<=cs.length/\olds=views (AB.sub cs off (k*sz)):=by
  unfold mU at hol
  by_cases hk:k=0
  ·subst hk
   injection hol with hol;exact .inl ⟨rfl,hol.symm⟩
  ·rw[show(k==0)=false by simpa using hk]at hol
   cases hca:iZ k sz off (E.s b)with
   |none=>rw[hca]at hol;cases hol
   |some q=>
    rw[hca]at hol;injection hol with hol
    obtain⟨q1,q2⟩:=q
    obtain⟨cs,e1,e2,_,e4⟩:=pF hca
    exact .inr ⟨cs,e1,e2,by rw[<-hol];exact e4⟩
 by_cases cF:k+m<=cap
 ·rcases TY cF with⟨rfl,hk⟩|⟨bz,hk⟩
  ·have rm:news=[]:=List.eq_nil_of_length_eq_zero (by simpa using c6.len)
   subst rm
   intro pos after gd next Q hn
   refine aI (w':=w) (v:=a.eval u) ?_ (hn G _ _ _ (h.Jy hd rfl hbx rfl) (az.refl G w) hk)
   rcases VR.cc hbx with e1|⟨rfl,rfl,e1⟩
   ·have bk:=gx (ty:=ty) (w:=w) ht ht2 hi oG c6 (b:=b) (off:=off) (k:=k) (cap:=cap) cF (w':=w) rfl
    simp only[Nat.add_zero]at bk
    simp[execOp,resolve,invoke,builtin,e1,bk]
   ·have bk:=mb (ty:=ty) ht ht2 hi oG c6
    simp[execOp,resolve,invoke,builtin,e1,bk]
  ·obtain⟨cs,hsb,IP⟩:=yG bz
   rw[hsb]at hk
   have hk':K ({E with s:=E.s.set b (.cells (setAt cs (off+k*sz) ds))}.put d (.arr b off (k+m) cap)):=hk
   obtain⟨_,_,c,et,hcb,hcr,hcf⟩:=h.store b _ hsb
   have hmul:off+k*sz+m*sz<=cs.length:=by
    rw[Nat.add_assoc,<-Nat.add_mul]
    exact Nat.le_trans (Nat.add_le_add_left (Nat.mul_le_mul_right _ cF) _) IP
   by_cases hm:m=0
   ·subst hm
    have rm:news=[]:=List.eq_nil_of_length_eq_zero (by simpa using c6.len)
    have hds:ds=[]:=List.eq_nil_of_length_eq_zero (by simpa using c6.nW)
    subst rm;subst hds
    rw[zb,nf hsb,Nat.add_zero]at hk'
    intro pos after gd next Q hn
    refine aI (w':=w) (v:=a.eval u) ?_ (hn G _ _ _ (h.Jy hd rfl hbx rfl) (az.refl G w) hk')
    rcases VR.cc hbx with e1|⟨rfl,rfl,e1⟩
    ·have bk:=gx (ty:=ty) (w:=w) ht ht2 hi oG c6 (b:=b) (off:=off) (k:=k) (cap:=cap) cF (w':=w) rfl
     simp only[Nat.add_zero]at bk
     simp[execOp,resolve,invoke,builtin,e1,bk]
    ·have bk:=mb (ty:=ty) ht ht2 hi oG c6
     simp[execOp,resolve,invoke,builtin,e1,bk]
   ·have e1:=VR.pM hbx (by omega)
    obtain⟨h2,hp2⟩:=h.vp (off:=off+k*sz) (ds:=ds) (news:=news) hsb hcb (by rw[c6.len,c6.nW]) (by rw[c6.nW];exact hmul) c6.fl Pq.vw c6.ki
    have Pb:off+k*sz+news.length<=c.size:=by rw[c6.len,hcr.1];exact hmul
    have cj:=cW (P:=P) b (off+k*sz) et (0,0) news 0 c w hcb (fun j _ hj=>by simp at hj) (by simpa using Pb) c6.one
    have bk:=gx (ty:=ty) (w:=w) ht ht2 hi oG c6 (b:=b) (off:=off) (k:=k) (cap:=cap) cF (w':=w.setRow b (laid c (off+k*sz) news)) (by simpa[laid]using cj)
    intro pos after gd next Q hn
    refine aI ?_ (hn G _ _ _ (h2.Jy hd rfl (.arr b off (k+m) cap) rfl) hp2 hk')
    simp[execOp,resolve,invoke,builtin,e1,bk]
 ·have hgr:cap<k+m:=by omega
  obtain⟨bz,hk⟩:=BM hgr
  have grow:∀(base:Option Addr)(us:List Value),a.eval u=.slice base k cap->us.length=k*sz->olds.length=k*sz->Fl olds->views olds=olds->
   (Builtin.firstCells sz k (.slice base k cap)).run P w.drew=.ok us.toArray w.drew->(∀(j:Nat)(c:AV)(u:Value),olds[j]? =some c->us[j]? =some u->VR w G.R c u)->
   mr P G n D w a (.call {callee:=.builtin .append,args:= #[u,v],argTypes:= #[t,t']}) ty d K:=by
   intro base us e1 hul VB hof hov hfc oJ
   have bk:=p9 (ty:=ty) ht ht2 hi hz oG c6 hfc hgr (by rw[hby];exact bz) (by rw[hby];exact oF)
   have hge:k+m<=grownCap w (k+m) cap e:=grownCap_ge w (k+m) cap e
   obtain⟨zz1,zz2,zz3,zz4,_⟩:=RS (grownCap w (k+m) cap e -(k+m))
   obtain⟨G2,h3,h4⟩:=(h.drew).KU (t:=e) (c:=us.toArray++news.toArray++Builtin.zeroCells zv.cells (grownCap w (k+m) cap e -(k+m)))
    (cs:=olds++ds++(List.replicate (grownCap w (k+m) cap e -(k+m)) z).flatten) (d:=d) hd (.inr ⟨k+m,grownCap w (k+m) cap e,rfl,rfl⟩)
    (fun G' w' o hp=>by
      have hl1:=c6.len
      have hl2:=c6.nW
      refine⟨by simp only[Array.size_append,List.size_toArray,List.length_append,zz2];rw[Array.length_toList]at zz1;omega,fun j x y hx hy=>?_⟩
      have sj:∀(l:List AV)(q:Nat),views l=l->l[q]? =some x->cQ G' w' (o j) x y:=by
       intro l q hvl hq
       rw[<-hvl,dH]at hq
       cases hz':l[q]? with
       |none=>rw[hz']at hq;cases hq
       |some x'=>rw[hz']at hq;simp at hq;rw[<-hq];exact cQ.view ..
      by_cases hj1:j<olds.length
      ·rw[List.append_assoc,List.getElem?_append_left hj1]at hx
       rw[Array.append_assoc,Array.getElem?_append_left (by simp;omega)]at hy
       exact⟨hp.vr h.drew.aJ ((az.drew G w).vr h.aJ (oJ j x y hx (by simpa using hy))),sj _ _ hov hx⟩
      ·by_cases hj2:j<olds.length+ds.length
       ·rw[List.getElem?_append_left (by simp;omega),List.getElem?_append_right (by omega)]at hx
        rw[Array.getElem?_append_left (by simp;omega),Array.getElem?_append_right (by simp;omega)]at hy
        simp only[List.size_toArray,List.getElem?_toArray]at hy
        rw[hul,<-VB]at hy
        exact⟨hp.vr h.drew.aJ ((az.drew G w).vr h.aJ (c6.ki _ x y hx hy)),sj _ _ Pq.vw hx⟩
       ·rw[List.getElem?_append_right (by simp;omega)]at hx
        rw[Array.getElem?_append_right (by simp;omega)]at hy
        have ea:(us.toArray++news.toArray).size=olds.length+ds.length:=by simp;omega
        rw[ea]at hy
        rw[List.length_append]at hx
        have:=zz3 _ x y hx (by simpa using hy)
        exact⟨q9 this w' G'.R,Bz this G' w' _⟩)
    (fun c hc=>by
      rcases List.mem_append.1 hc with hc|hc
      ·rcases List.mem_append.1 hc with hc|hc
       ·exact hof c hc
       ·exact c6.fl c hc
      ·exact zz4 c hc)
   intro pos after gd next Q hn
   refine aI ?_ (hn G2 _ _ _ h3 ((az.drew G w).trans h4) (hk _ _ (h.store.get_none h.aJ) hge))
   simp[execOp,resolve,invoke,builtin,e1,bk]
  rcases VR.cc hbx with e1|⟨rfl,rfl,e1⟩
  ·rcases hold with⟨rfl,rfl⟩|⟨cs,hsb,hle,rfl⟩
   ·exact grow _ [] e1 (by simp) (by simp) Fl.nil rfl (run_firstCells_some w.drew sz 0 ⟨b,off,none⟩ 0 cap [] (by simp) (fun j v hj=>by simp at hj)) (fun j c u hc=>by simp at hc)
   ·have hat:=h.store.at hsb hle
    obtain⟨us,u1,u2,u3⟩:=hat.ki
    have hfl:Fl (views (AB.sub cs off (k*sz))):=by obtain⟨_,_,_,hf⟩:=hat;exact hf
    have hlen:(views (AB.sub cs off (k*sz))).length=k*sz:=by simp only[views,List.length_map];exact ja hle
    exact grow _ us e1 (by rw[u1,hlen]) hlen hfl (nK _) (run_firstCells_some w.drew sz k ⟨b,off,none⟩ k cap us (by rw[u1,hlen]) u2) u3
  ·rcases hold with⟨_,rfl⟩|⟨cs,hsb,hle,rfl⟩
   ·exact grow none [] e1 (by simp) (by simp) Fl.nil rfl (by simp[Builtin.firstCells]) (fun j c u hc=>by simp at hc)
   ·have:views (AB.sub cs off (0*sz))=[]:=by simp[AB.sub,views]
    rw[this]at grow
    exact grow none [] e1 (by simp) (by simp) Fl.nil rfl (by simp[Builtin.firstCells]) (fun j c u hc=>by simp at hc)
theorem Ep{t t' ty e:TypeId}{i:TypeInfo}{z:Value}{sz m:Nat}{k':IntKind}(ht:P.underlying t=some (.slice e))(ht':P.underlying t'=some (.int k'))(hi:P.info? e=some i)(hz:i.zero=some z)(hsz:i.size=sz)(afj:0<sz){c:Int}(hc0:0<=c)(hm:c.toNat=m){base:Option Addr}{k cap:Nat}{olds:List Value}
 (hold:(Builtin.firstCells sz k (.slice base k cap)).run P w.drew=.ok olds.toArray w.drew)(bz:cap<k+m)(BK:(k+m)*i.bytes<=room)(hb0:0<i.bytes):
 (Builtin.append_ #[t,t'] ty #[.slice base k cap,.int .i64 c]).run P w=.ok (.slice (some ⟨w.heap.size,0,none⟩) (k+m) (grownCap w (k+m) cap e))
   (w.drew.alloc (.cells (olds.toArray++Builtin.zeroCells z.cells m++Builtin.zeroCells z.cells (grownCap w (k+m) cap e -(k+m))) e)):=by
 subst hsz
 subst hm
 have h3:¬(k+c.toNat<=cap):=by omega
 have h4:¬(281474976710656<Builtin.nextslicecap (k+c.toNat) cap*i.bytes):=by have:=growslice_fits bz BK;omega
 have h5:k+c.toNat<=(k+c.toNat)*i.bytes:=Nat.le_mul_of_pos_right _ hb0
 have RO:=BK
 unfold room at RO
 have hcb:c<=140737488355328:=by omega
 have h6:¬((9223372036854775807:Int)<(k:Int)+(c.toNat:Int)):=by omega
 have h6':¬((9223372036854775807:Int)<(k:Int)+c):=by omega
 have ZB:¬((9223372036854775807:Int)<(k:Int)+max c 0):=by omega
 have hw:IntKind.i64.wrap c=c:=zm hc0 (by omega)
 have h7:¬(c<0):=by omega
 have h8:¬((281474976710656:Int)<c*(i.bytes:Int)):=by
  have h9:c.toNat*i.bytes<=(k+c.toNat)*i.bytes:=Nat.mul_le_mul_right _ (by omega)
  have h10:((c.toNat*i.bytes:Nat):Int)=c*(i.bytes:Int):=by rw[Int.natCast_mul,Int.toNat_of_nonneg hc0]
  omega
 by_cases hc1:c.toNat=0
 ·have:Builtin.zeroCells z.cells c.toNat= #[]:=by rw[hc1];simp[Builtin.zeroCells]
  have hm0:c.toNat*i.size=0:=by rw[hc1,Nat.zero_mul]
  simp[Builtin.append_,run_underlying ht,run_underlying ht',sizeOf,typeInfo,zeroValue,hi,hz,asInt,asIntOf,hw,h7,h8,h3,h4,h6,h6',ZB,hm0,Question.forced,hold,newRow,grownCap,this]<;>
   (congr 2;apply Array.ext';simp[List.append_assoc])
 ·have hm0:¬(c.toNat*i.size=0):=by
   intro e
   rcases Nat.mul_eq_zero.1 e with e|e<;>omega
  simp[Builtin.append_,run_underlying ht,run_underlying ht',sizeOf,typeInfo,zeroValue,hi,hz,asInt,asIntOf,hw,h7,h8,h3,h4,h6,h6',ZB,hm0,Question.forced,hold,newRow,grownCap]<;>
   (congr 2;apply Array.ext';simp[List.append_assoc])
theorem Iw(h:Inv G n D E a w){op:Op}{ty:TypeId}{sz by':Nat}{z:List AV}{x y:IX}{d:Option Nat}{K:St->Prop}(hd:aS n d=true)(hc:aq P op ty (.lV sz by' z x y)=true)(hw:gz P (.lV sz by' z x y) d E K):mr P G n D w a op ty d K:=by
 cases op<;>first|(simp[aq]at hc;done)|skip
 rename_i c
 simp only[aq]at hc
 split at hc<;>try(cases hc;done)
 rename_i u v t t' hb
 have hce:=nN hb
 subst hce
 simp only[Bool.and_eq_true]at hc
 obtain⟨⟨⟨hu,hv⟩,ht'⟩,hc⟩:=hc
 obtain⟨k',ht2⟩:=R5 ht'
 split at hc<;>try(cases hc;done)
 rename_i e ht
 have ht:=cz ht
 simp only[Bool.and_eq_true]at hc
 obtain⟨⟨⟨⟨hs,hby⟩,gQ⟩,oF⟩,hzi⟩:=hc
 obtain⟨i,hi,oG⟩:=jF hs
 obtain⟨zv,_,⟨i1,hi1,hz,hz1⟩,RS⟩:=sJ hzi
 rw[hi]at hi1;injection hi1 with hi1;subst hi1
 have gQ:=of_decide_eq_true gQ
 have oF:=of_decide_eq_true oF
 have hby:i.bytes=by':=by
  unfold jQ at hby
  rw[hi]at hby
  simpa using hby
 have hw':qW sz by' z E d K (E.x x) (xg true E y):=hw
 have hbx:=XR.aG h hu
 have hbv:=BR.aG h hv
 generalize E.x x=xv at hw' hbx
 generalize xg true E y=yv at hw' hbv
 unfold qW at hw'
 split at hw'<;>try(exact hw'.elim)
 rename_i b off k cap q
 obtain⟨hq0,hgr,hvz,hw'⟩:=hw'
 have ev:=VR.bT hbv
 generalize hm:q.toNat=m at hw' hgr
 obtain⟨zm1,zm2,zm3,zm4,zm5⟩:=RS m
 cases hol:mU E.s sz b off k with
 |none=>rw[hol]at hw';exact hw'.elim
 |some olds=>
 rw[hol]at hw'
 obtain⟨VJ,TY,BM⟩:=hw'
 have hold:k=0/\olds=[]\/∃cs,E.s b=some (.cells cs)/\off+k*sz<=cs.length/\olds=views (AB.sub cs off (k*sz)):=by
  unfold mU at hol
  by_cases hk:k=0
  ·subst hk
   injection hol with hol;exact .inl ⟨rfl,hol.symm⟩
  ·rw[show(k==0)=false by simpa using hk]at hol
   cases hca:iZ k sz off (E.s b)with
   |none=>rw[hca]at hol;cases hol
   |some q=>
    rw[hca]at hol;injection hol with hol
    obtain⟨q1,q2⟩:=q
    obtain⟨cs,e1,e2,_,e4⟩:=pF hca
    exact .inr ⟨cs,e1,e2,by rw[<-hol];exact e4⟩
 obtain⟨bz,hk⟩:=BM hgr
 obtain⟨ds,hds⟩:∃ds,ds=(List.replicate m z).flatten:=⟨_,rfl⟩
 obtain⟨news,rm⟩:∃news,news=(Builtin.zeroCells zv.cells m).toList:=⟨_,rfl⟩
 have adN:views ds=ds:=by
  rw[hds];unfold views at hvz⊢
  rw[List.map_flatten,List.map_replicate,hvz]
 rw[<-hds]at hk
 have grow:∀(base:Option Addr)(us:List Value),a.eval u=.slice base k cap->us.length=k*sz->olds.length=k*sz->Fl olds->views olds=olds->
  (Builtin.firstCells sz k (.slice base k cap)).run P w.drew=.ok us.toArray w.drew->(∀(j:Nat)(c:AV)(u:Value),olds[j]? =some c->us[j]? =some u->VR w G.R c u)->
  mr P G n D w a (.call {callee:=.builtin .append,args:= #[u,v],argTypes:= #[t,t']}) ty d K:=by
  intro base us e1 hul VB hof hov hfc oJ
  have bk:=Ep (ty:=ty) ht ht2 hi hz oG gQ hq0 hm hfc hgr (by rw[hby];exact bz) (by rw[hby];exact oF)
  have hge:k+m<=grownCap w (k+m) cap e:=grownCap_ge w (k+m) cap e
  obtain⟨zz1,zz2,zz3,zz4,_⟩:=RS (grownCap w (k+m) cap e -(k+m))
  obtain⟨G2,h3,h4⟩:=(h.drew).KU (t:=e) (c:=us.toArray++Builtin.zeroCells zv.cells m++Builtin.zeroCells zv.cells (grownCap w (k+m) cap e -(k+m)))
   (cs:=olds++ds++(List.replicate (grownCap w (k+m) cap e -(k+m)) z).flatten) (d:=d) hd (.inr ⟨k+m,grownCap w (k+m) cap e,rfl,rfl⟩)
   (fun G' w' o hp=>by
     have hl1:news.length=m*sz:=by rw[rm,zm1,VJ]
     have hl2:ds.length=m*sz:=by rw[hds,zm2,VJ]
     have hna:Builtin.zeroCells zv.cells m=news.toArray:=by rw[rm]
     rw[hna]
     refine⟨by simp only[Array.size_append,List.size_toArray,List.length_append,zz2];rw[Array.length_toList]at zz1;omega,fun j x y hx hy=>?_⟩
     have sj:∀(l:List AV)(q:Nat),views l=l->l[q]? =some x->cQ G' w' (o j) x y:=by
      intro l q hvl hq
      rw[<-hvl,dH]at hq
      cases hz':l[q]? with
      |none=>rw[hz']at hq;cases hq
      |some x'=>rw[hz']at hq;simp at hq;rw[<-hq];exact cQ.view ..
     by_cases hj1:j<olds.length
     ·rw[List.append_assoc,List.getElem?_append_left hj1]at hx
      rw[Array.append_assoc,Array.getElem?_append_left (by simp;omega)]at hy
      exact⟨hp.vr h.drew.aJ ((az.drew G w).vr h.aJ (oJ j x y hx (by simpa using hy))),sj _ _ hov hx⟩
     ·by_cases hj2:j<olds.length+ds.length
      ·rw[List.getElem?_append_left (by simp;omega),List.getElem?_append_right (by omega)]at hx
       rw[Array.getElem?_append_left (by simp;omega),Array.getElem?_append_right (by simp;omega)]at hy
       simp only[List.size_toArray,List.getElem?_toArray]at hy
       rw[hul,<-VB]at hy
       exact⟨hp.vr h.drew.aJ ((az.drew G w).vr h.aJ (q9 (zm3 _ x y (by rw[<-hds];exact hx) (by rw[<-rm];exact hy)) w G.R)),sj _ _ adN hx⟩
      ·rw[List.getElem?_append_right (by simp;omega)]at hx
       rw[Array.getElem?_append_right (by simp;omega)]at hy
       have ea:(us.toArray++news.toArray).size=olds.length+ds.length:=by simp;omega
       rw[ea]at hy
       rw[List.length_append]at hx
       have:=zz3 _ x y hx (by simpa using hy)
       exact⟨q9 this w' G'.R,Bz this G' w' _⟩)
   (fun c hc=>by
     rcases List.mem_append.1 hc with hc|hc
     ·rcases List.mem_append.1 hc with hc|hc
      ·exact hof c hc
      ·exact zm4 c (by rw[<-hds];exact hc)
     ·exact zz4 c hc)
  intro pos after gd next Q hn
  refine aI ?_ (hn G2 _ _ _ h3 ((az.drew G w).trans h4) (hk _ _ (h.store.get_none h.aJ) hge))
  simp[execOp,resolve,invoke,builtin,e1,ev,bk]
 rcases VR.cc hbx with e1|⟨rfl,rfl,e1⟩
 ·rcases hold with⟨rfl,rfl⟩|⟨cs,hsb,hle,rfl⟩
  ·exact grow _ [] e1 (by simp) (by simp) Fl.nil rfl (run_firstCells_some w.drew sz 0 ⟨b,off,none⟩ 0 cap [] (by simp) (fun j v hj=>by simp at hj)) (fun j c u hc=>by simp at hc)
  ·have hat:=h.store.at hsb hle
   obtain⟨us,u1,u2,u3⟩:=hat.ki
   have hfl:Fl (views (AB.sub cs off (k*sz))):=by obtain⟨_,_,_,hf⟩:=hat;exact hf
   have hlen:(views (AB.sub cs off (k*sz))).length=k*sz:=by simp only[views,List.length_map];exact ja hle
   exact grow _ us e1 (by rw[u1,hlen]) hlen hfl (nK _) (run_firstCells_some w.drew sz k ⟨b,off,none⟩ k cap us (by rw[u1,hlen]) u2) u3
 ·rcases hold with⟨_,rfl⟩|⟨cs,hsb,hle,rfl⟩
  ·exact grow none [] e1 (by simp) (by simp) Fl.nil rfl (by simp[Builtin.firstCells]) (fun j c u hc=>by simp at hc)
  ·have:views (AB.sub cs off (0*sz))=[]:=by simp[AB.sub,views]
   rw[this]at grow
   exact grow none [] e1 (by simp) (by simp) Fl.nil rfl (by simp[Builtin.firstCells]) (fun j c u hc=>by simp at hc)
end
section
variable{P:Program}{G G':Gh}{n:Nat}{D:List Deferred}{E:St}{a:Act}{w w':World}
theorem xn{t t' ty e:TypeId}(ht:P.underlying t=some (.slice e)){sz m k cap:Nat}(hs:cH P e sz=true){R:Nat->Nat}{ds:List AV}{v:Value}{news:List Value}(h:qC P w R sz m ds v news){base:Option Addr}{w':World}
 (cj:∀ad,base=some ad->(storeCells ad (news.take (min m k*sz))).run P w=.ok () w')(Pj:base=none->w'=w):
 (Builtin.copy_ #[t,t'] ty #[.slice base k cap,v]).run P w=.ok (.int .i64 (min m k:Nat)) w':=by
 have h1:=h.lenOf w
 have h2:=h.first (min m k) (Nat.min_le_left _ _) w rfl
 cases base with
 |none=>
  have:=Pj rfl
  subst this
  simp[Builtin.copy_,run_underlying ht,run_sizeOf hs,h1,h2,goInt]
 |some ad=>
  have h3:=cj ad rfl
  simp[Builtin.copy_,run_underlying ht,run_sizeOf hs,h1,h2,h3,goInt]
theorem M3(h:Inv G n D E a w){op:Op}{ty:TypeId}{sz:Nat}{x y:IX}{d:Option Nat}{K:St->Prop}(hd:aS n d=true)(hc:aq P op ty (.vQ sz x y)=true)(hw:gz P (.vQ sz x y) d E K):mr P G n D w a op ty d K:=by
 cases op<;>first|(simp[aq]at hc;done)|skip
 rename_i c
 simp only[aq]at hc
 split at hc<;>try(cases hc;done)
 rename_i u v t t' hb
 have hce:=nN hb
 subst hce
 simp only[Bool.and_eq_true]at hc
 obtain⟨⟨hu,hv⟩,hc⟩:=hc
 split at hc<;>try(cases hc;done)
 rename_i e ht
 have ht:=cz ht
 have hw':uM sz E d K (E.x x) (tO E.s sz (E.x y)):=hw
 have hbx:=XR.aG h hu
 generalize E.x x=xv at hw' hbx
 cases hsv:tO E.s sz (E.x y)with
 |none=>rw[hsv]at hw';unfold uM at hw';split at hw'<;>first|(rename_i hh;cases hh;done)|exact hw'.elim
 |some md=>
 obtain⟨m,ds⟩:=md
 rw[hsv]at hw'
 obtain⟨news,c6⟩:=Dh (P:=P) h hv hsv
 unfold uM at hw'
 split at hw'<;>try(exact hw'.elim)
 rename_i b off k cap _ _ he0
 injection he0 with he0;injection he0 with e1 e2;subst e1;subst e2
 rcases hw' with⟨v7,hk⟩|⟨bz,hk⟩
 ·intro pos after gd next Q hn
  refine aI (w':=w) (v:=.int .i64 0) ?_ (hn G _ _ _ (h.Jy hd rfl (.int _ _) rfl) (az.refl G w) hk)
  rcases VR.cc hbx with e1|⟨rfl,rfl,e1⟩
  ·have bk:=xn (ty:=ty) (t':=t') (w:=w) ht hc c6 (base:=some ⟨b,off,none⟩) (k:=k) (cap:=cap) (w':=w) (fun ad _=>by rw[v7];simp;rfl) (fun hh=>by cases hh)
   rw[v7]at bk
   simp[execOp,resolve,invoke,builtin,e1,bk]
  ·have bk:=xn (ty:=ty) (t':=t') (w:=w) ht hc c6 (base:=none) (k:=0) (cap:=0) (w':=w) (fun ad hh=>by cases hh) (fun _=>rfl)
   simp at bk
   simp[execOp,resolve,invoke,builtin,e1,bk]
 ·obtain⟨cs,hsb,cF⟩:=yG bz
  rw[hsb]at hk
  have hk':K ({E with s:=E.s.set b (.cells (setAt cs off (ds.take (min m k*sz))))}.put d (.int .i64 (min m k:Nat))):=hk
  obtain⟨_,_,c,et,hcb,hcr,hcf⟩:=h.store b _ hsb
  have ZO:min m k*sz<=m*sz:=Nat.mul_le_mul_right _ (Nat.min_le_left _ _)
  have afg:min m k*sz<=k*sz:=Nat.mul_le_mul_right _ (Nat.min_le_right _ _)
  have hl1:(ds.take (min m k*sz)).length=min m k*sz:=by simp[c6.nW,ZO]
  have hl2:(news.take (min m k*sz)).length=min m k*sz:=by simp[c6.len,ZO]
  rcases VR.cc hbx with e1|⟨rfl,rfl,e1⟩
  ·obtain⟨h2,hp2⟩:=h.vp (off:=off) (ds:=ds.take (min m k*sz)) (news:=news.take (min m k*sz)) hsb hcb (by rw[hl1,hl2]) (by rw[hl1];omega) (fun c hc=>c6.fl c (List.mem_of_mem_take hc))
    (by
      have:=c6.vw
      unfold views at this⊢
      rw[List.map_take,this]) (fun j x y hx hy=>by
      rw[List.getElem?_take]at hx hy
      split at hx
      ·rename_i hj;rw[if_pos hj]at hy;exact c6.ki j x y hx hy
      ·cases hx)
   have Pb:off+(news.take (min m k*sz)).length<=c.size:=by rw[hl2,hcr.1];omega
   have cj:=cW (P:=P) b off et (0,0) (news.take (min m k*sz)) 0 c w hcb (fun j _ hj=>by simp at hj) (by simpa using Pb) (fun u hu=>c6.one u (List.mem_of_mem_take hu))
   have bk:=xn (ty:=ty) (t':=t') (w:=w) ht hc c6 (base:=some ⟨b,off,none⟩) (k:=k) (cap:=cap) (w':=w.setRow b (laid c off (news.take (min m k*sz)))) (fun ad had=>by injection had with had;subst had;simpa[laid]using cj) (fun hh=>by cases hh)
   intro pos after gd next Q hn
   refine aI ?_ (hn G _ _ _ (h2.Jy hd rfl (.int _ _) rfl) hp2 hk')
   simp[execOp,resolve,invoke,builtin,e1,bk]
  ·have h0:min m 0=0:=Nat.min_zero m
   rw[h0,Nat.zero_mul,List.take_zero,zb,nf hsb]at hk'
   have bk:=xn (ty:=ty) (t':=t') (w:=w) ht hc c6 (base:=none) (k:=0) (cap:=0) (w':=w) (fun ad hh=>by cases hh) (fun _=>rfl)
   intro pos after gd next Q hn
   refine aI (w':=w) ?_ (hn G _ _ _ (h.Jy hd rfl (.int .i64 (0:Nat)) rfl) (az.refl G w) hk')
   simp at bk
   simp[execOp,resolve,invoke,builtin,e1,bk]
theorem Kn(h:Inv G n D E a w){op:Op}{ty:TypeId}{z:List AV}{x:IX}{d:Option Nat}{K:St->Prop}(hd:aS n d=true)(hc:aq P op ty (.pI z x)=true)(hw:gz P (.pI z x) d E K):mr P G n D w a op ty d K:=by
 cases op<;>first|(simp[aq]at hc;done)|skip
 rename_i c
 simp only[aq]at hc
 split at hc<;>try(cases hc;done)
 rename_i u us t ts hb
 have hce:=nN hb
 subst hce
 simp only[Bool.and_eq_true]at hc
 obtain⟨hu,hc⟩:=hc
 split at hc<;>try(cases hc;done)
 rename_i e ht
 have ht:=cz ht
 have hw':vM z E d K (E.x x):=hw
 have hbx:=XR.aG h hu
 generalize E.x x=xv at hw' hbx
 unfold vM at hw'
 split at hw'<;>try(exact hw'.elim)
 rename_i b off k cap
 obtain⟨v,hv1,_,hv2⟩:=sJ hc
 obtain⟨z1,z2,z3',z4,z5⟩:=hv2 k
 have z3:∀(j:Nat)(x:AV)(y:Value),(List.replicate k z).flatten[j]? =some x->(Builtin.zeroCells v.cells k).toList[j]? =some y->VR w G.R x y:=fun j x y hx hy=>q9 (z3' j x y hx hy) w G.R
 rcases hw' with⟨hk0,hk⟩|⟨bz,hvw,hk⟩
 ·subst hk0
  intro pos after gd next Q hn
  refine aI (w':=w) (v:=.tuple #[]) ?_ (hn G _ _ _ (h.Wz hd) (az.refl G w) hk)
  rcases VR.cc hbx with e1|⟨_,rfl,e1⟩<;>simp[execOp,resolve,invoke,builtin,e1,Builtin.clear_,run_underlying ht]
 ·obtain⟨cs,hsb,cF⟩:=yG bz
  rw[hsb]at hk
  have hk':K ({E with s:=E.s.set b (.cells (setAt cs off (List.replicate k z).flatten))}.put d (.gb [])):=hk
  obtain⟨_,_,c,et,hcb,hcr,hcf⟩:=h.store b _ hsb
  by_cases hk0:k=0
  ·subst hk0
   simp only[List.replicate_zero,List.flatten_nil,zb,nf hsb]at hk'
   intro pos after gd next Q hn
   refine aI (w':=w) (v:=.tuple #[]) ?_ (hn G _ _ _ (h.Wz hd) (az.refl G w) hk')
   rcases VR.cc hbx with e1|⟨_,rfl,e1⟩<;>simp[execOp,resolve,invoke,builtin,e1,Builtin.clear_,run_underlying ht]
  ·rcases VR.cc hbx with e1|⟨h0,_,_⟩
   ·obtain⟨h2,hp2⟩:=h.vp (off:=off) (ds:=(List.replicate k z).flatten) (news:=(Builtin.zeroCells v.cells k).toList) hsb hcb (by rw[z1,z2]) (by rw[z2];exact cF) z4
     (by
       unfold views
       rw[List.map_flatten,List.map_replicate]
       unfold views at hvw
       rw[hvw]) z3
    have cj:=cW (P:=P) b off et (0,0) (Builtin.zeroCells v.cells k).toList 0 c w hcb (fun j _ hj=>by simp at hj) (by rw[z1,hcr.1];simpa using cF) z5
    have Pr:(storeCells ⟨b,off,none⟩ (Builtin.zeroCells v.cells k).toList).run P w=.ok () (w.setRow b (laid c off (Builtin.zeroCells v.cells k).toList)):=by simpa[laid]using cj
    intro pos after gd next Q hn
    refine aI (v:=.tuple #[]) ?_ (hn G _ _ _ (h2.Wz hd) hp2 hk')
    have bk:(Builtin.clear_ (t::ts).toArray ty (Array.map a.eval (u::us).toArray)).run P w=.ok (.tuple #[]) (w.setRow b (laid c off (Builtin.zeroCells v.cells k).toList)):=by
     obtain⟨k',rfl⟩:∃k',k=k'+1:=⟨k -1,by omega⟩
     simp[Builtin.clear_,run_underlying ht,e1,hv1,Pr]
    simp[execOp,resolve,invoke,builtin]at bk⊢;simp[bk]
   ·exact absurd h0 hk0
end
end Go.AB
end
