/- A part of the proof. -/
import Derived.Test.YtkeagffgdajggaaGreatD5
set_option linter.unusedSimpArgs false
set_option linter.unusedVariables false
section
namespace Go.AB
open Go Go.MapKept
section
variable{P:Program}{G:Gh}{n:Nat}{D:List Deferred}{E:St}{a:Act}{w:World}
theorem Cp{R:Nat->Nat}{kk:lI}{k:AV}{x:Value}(hk:fo kk k=true)(hx:VR w R k x):∀(es:List (AV×AV))(l:List MapEntry),l.length=es.length->
 (∀(j:Nat)(p:AV×AV)(y:MapEntry),es[j]? =some p->l[j]? =some y->VR w R p.1 y.key/\VR w R p.2 y.val)->kK kk es=true->
 ((∀e∈l,e.key≠x)->fA k es=none/\∀v,wL k v es=es++[(k,v)])/\
 (∀(j:Nat)(e:MapEntry),l[j]? =some e->e.key=x->(∀(i:Nat)(e':MapEntry),i<j->l[i]? =some e'->e'.key≠x)->∃p,es[j]? =some p/\fA k es=some p.2/\∀v,wL k v es=es.set j (k,v))
 |[],[],_,_,_=>⟨fun _=>⟨rfl,fun v=>rfl⟩,fun j e hj=>by simp at hj⟩
 |[],_::_,hl,_,_=>by simp at hl
 |_::_,[],hl,_,_=>by simp at hl
 |p::es,y::l,hl,hr,hks=>by
  have agM:fo kk p.1=true/\kK kk es=true:=by simpa[kK]using hks
  have h0:=(hr 0 p y rfl rfl).1
  have Cv:=UO hk agM.1 hx h0
  obtain⟨i1,i2⟩:=Cp hk hx es l (by simpa using hl) (fun j q z hq hz=>hr (j+1) q z (by simpa using hq) (by simpa using hz)) agM.2
  constructor
  ·intro hne
   have hf:mb k p.1=false:=by
    cases hh:mb k p.1 with
    |false=>rfl
    |true=>exact absurd (Cv.1 hh) (hne y (.head _))
   obtain⟨j1,j2⟩:=i1 fun e he=>hne e (.tail _ he)
   refine⟨by simp[fA,hf,j1],fun v=>by simp[wL,hf,j2 v]⟩
  ·intro j e hj hek My
   cases j with
   |zero=>
    simp at hj;subst hj
    have hf:mb k p.1=true:=Cv.2 hek
    exact⟨p,rfl,by simp[fA,hf],fun v=>by simp[wL,hf]⟩
   |succ j=>
    have hf:mb k p.1=false:=by
     cases hh:mb k p.1 with
     |false=>rfl
     |true=>exact absurd (Cv.1 hh) (My 0 y (by omega) rfl)
    obtain⟨q,q1,q2,q3⟩:=i2 j e (by simpa using hj) hek fun i e' hi he'=>My (i+1) e' (by omega) (by simpa using he')
    exact⟨q,by simpa using q1,by simp[fA,hf,q2],fun v=>by simp[wL,hf,q3 v]⟩
theorem Inv.Qv(h:Inv G n D E a w){d:Option Nat}(hd:bz n d=true){av:AV}{v:Value}(hi:dF av=true)(hv:VR w G.R av v):Inv G n D (E.put d (view av)) (a.put d v) w:=by
 have h2:NR G w E a (view av) v:=NR.view hi hv
 have:=h.put (s':=E.s) (lp':=E.lp) d (fun i hi=>by subst hi;simpa[bz]using hd) (view av) v h.aV (aC.refl G w) h.store (fun _ hx=>hx) (fun i t _ ht=>(fc (l9 hi) t ht).elim) (fun i t _⟨cs,hcs⟩=>(pk (l9 hi) cs hcs).elim)
  (fun _ _ _ _=>⟨rfl,rfl,rfl⟩) (fun _ _ _ _ _ _ hcc=>⟨hcc,rfl,rfl⟩) (fun i hdi=>dt.BB hi hv)
 cases d<;>exact this
theorem Inv.adG(h:Inv G n D E a w){d:Option Nat}(hd:bz n d=true){av:AV}{v:Value}(b:Bool)(hv:VR w G.R av v):Inv G n D (E.put d (.gK [view av,.bool b])) (a.put d (.tuple #[v,.bool b])) w:=by
 have:=h.put (s':=E.s) (lp':=E.lp) d (fun i hi=>by subst hi;simpa[bz]using hd) (.gK [view av,.bool b]) (.tuple #[v,.bool b]) h.aV (aC.refl G w) h.store (fun _ hx=>hx) (fun i t _ ht=>ht.elim) (fun i t _⟨cs,hcs⟩=>by cases hcs)
  (fun _ _ _ _=>⟨rfl,rfl,rfl⟩) (fun _ _ _ _ _ _ hcc=>⟨hcc,rfl,rfl⟩) (fun i hdi=>⟨_,rfl,rfl,fun j x y hx hy=>by
    match j with
    |0=>simp at hx hy;subst hx;subst hy;exact⟨hv.view,dx.view ..⟩
    |1=>simp at hx hy;subst hx;subst hy;exact⟨.bool b,trivial⟩
    |j+2=>simp at hx⟩)
 cases d<;>exact this
theorem BR.key{x:IX}{kk:lI}{av:AV}{v:Value}(hk:fo kk av=true)(h:BR G w E a x av v):VR w G.R av v:=by cases av<;>first|exact h|(cases kk<;>simp[fo]at hk)
theorem S8{t:TypeId}{z:AV}(h:S7 P t z=true):∃v,(∀w:World,(zeroValue t).run P w=.ok v w)/\(∀(w:World)(R:Nat->Nat),VR w R z v)/\dF z=true:=by
 unfold S7 at h
 split at h<;>first|(cases h;done)|skip
 rename_i i hi
 split at h<;>first|(cases h;done)|skip
 rename_i v hv
 refine⟨v,fun w=>by simp[zeroValue,typeInfo,hi,hv],?_⟩
 split at h
 ·exact⟨fun w R=>Td h w R,rfl⟩
 ·exact⟨fun w R=>uW h w R,VZ h⟩
theorem RL(h:Inv G n D E a w){op:Op}{ty:TypeId}{kk:lI}{z:AV}{ok:Bool}{x k:IX}{d:Option Nat}{K:St->Prop}(hd:bz n d=true)(hc:aq P op ty (.lookup kk z ok x k)=true)(hw:jB P (.lookup kk z ok x k) d E K):rS P G n D w a op ty d K:=by
 cases op<;>first|(simp[aq]at hc;done)|skip
 rename_i t y j ok'
 simp only[aq,Bool.and_eq_true,beq_iff_eq]at hc
 obtain⟨⟨⟨hy,hj⟩,rfl⟩,hc⟩:=hc
 split at hc<;>try(cases hc;done)
 rename_i kt et ht
 simp only[Bool.and_eq_true]at hc
 obtain⟨hkt,hz⟩:=hc
 have b9:=Ls hkt
 obtain⟨zv,hz1,hz2,hz3⟩:=S8 hz
 have hb:=BR.aR h hy
 have hbk:=BR.aR h hj
 have hw':SC E d K (jr kk z ok E.s (xg true E k) (xg true E x)):=hw
 generalize xg true E x=xv at hb hw'
 generalize xg true E k=kv at hbk hw'
 have fin:∀(av:AV)(v:Value)(b:Bool),(ok=false->dF av=true)->VR w G.R av v->K (E.put d (I5 ok av b))->view av=av->
  (∀(pos:String)(after:Array Edge)(g:Option (Nat×Bool)),(execOp a.eval ⟨d,.lookup t y j ok,ty,pos,after,g⟩).run P w=.ok (.value (if ok then .tuple #[v,.bool b]else v)) w)->rS P G n D w a (.lookup t y j ok) ty d K:=by
  intro av v b hi hvr hk hvw hr pos after g next Q hn
  refine a8 (hr pos after g) (hn G _ _ _ ?_ (aC.refl G w) hk)
  cases ok with
  |true=>
   have:=h.adG hd b hvr
   rw[hvw]at this
   exact this
  |false=>
   have:=h.Qv hd (hi rfl) hvr
   rw[hvw]at this
   exact this
 have pl:∀{av:AV}{b:Bool},zZ ok (I5 ok av b)=true->ok=false->dF av=true:=by
  intro av b hp ho
  subst ho
  exact hp
 unfold jr at hw'
 split at hw'
 ·rename_i b
  have e1:a.eval y=.map (some b):=VR.RY hb
  unfold pd at hw'
  split at hw'<;>try(exact hw'.elim)
  rename_i es hes
  unfold O6 at hw'
  cases hp:zZ ok (wB z ok (fA kv es))with
  |false=>rw[hp]at hw';exact hw'.elim
  |true=>
  rw[hp]at hw'
  obtain⟨⟨hkk,hks⟩,hK⟩:=hw'
  have hvk:=hbk.key hkk
  have hkv:=wm hkk hvk
  obtain⟨_,_,js,clock,hh,hsz,Ew⟩:=h.store b _ hes
  have eH:∀e∈js.toList,KV kk e.key:=fun e he=>by
   obtain⟨i,hi⟩:=List.mem_iff_getElem?.1 he
   have hlt:i<es.length:=by rw[<-hsz];have:=(List.getElem?_eq_some_iff.1 hi).1;simpa using this
   have h1:=Ew i _ e (List.getElem?_eq_getElem hlt) (by simpa using hi)
   exact wm (List.all_eq_true.1 hks _ (List.getElem_mem hlt)) h1.1
  obtain⟨f1,f2⟩:=Cp hkk hvk es js.toList (by simpa using hsz) (fun j p y hp hy=>Ew j p y hp (by simpa using hy)) hks
  have lY:=Go.MapKept.run_getObj_map (P:=P) hh
  have hck:=b9.check w js.isEmpty _ hkv
  rcases b9.find w _ hkv js.toList eH with⟨q1,q2⟩|⟨m,e,q1,q2,q3,q4⟩
  ·obtain⟨g1,_⟩:=f1 q2
   rw[g1]at hK hp
   refine fin (view z) zv false (pl hp) (hz2 w G.R).view hK (nr _) fun pos after g=>?_
   cases ok<;>simp[execOp,Instr.lookup,run_underlying ht,e1,lY,hck,q1,hz1]
  ·obtain⟨p,g1,g2,_⟩:=f2 m e q2 q3 q4
   rw[g2]at hK hp
   have hvr:=(Ew m p e g1 (by simpa using q2)).2
   refine fin (view p.2) e.val true (pl hp) hvr.view hK (nr _) fun pos after g=>?_
   cases ok<;>simp[execOp,Instr.lookup,run_underlying ht,e1,lY,hck,q1]
 ·have e1:a.eval y=.map none:=VR.PJ hb
  unfold O6 at hw'
  cases hp:zZ ok (I5 ok (view z) false)with
  |false=>rw[hp]at hw';exact hw'.elim
  |true=>
  rw[hp]at hw'
  obtain⟨hkk,hK⟩:=hw'
  have hkv:=wm hkk (hbk.key hkk)
  have hck:=b9.check w true _ hkv
  refine fin (view z) zv false (pl hp) (hz2 w G.R).view hK (nr _) fun pos after g=>?_
  ·rcases b9.find w _ hkv [] (by simp)with⟨q1,_⟩|⟨m,e,_,q2,_⟩
   ·cases ok<;>simp[execOp,Instr.lookup,run_underlying ht,e1,hck,q1,hz1]
   ·simp at q2
 ·exact hw'.elim
theorem Inv.abT(h:Inv G n D E a w){b:Nat}{js tY:Array MapEntry}{clock rk:Nat}(hb:w.heap[b]? =some (.map js clock))(ho:G.O b=.sh)(hR:G.R b=0){es':List (AV×AV)}
 (Ew:tY.size=es'.length/\∀(j:Nat)(x:AV×AV)(y:MapEntry),es'[j]? =some x->tY[j]? =some y->afU G w x y):
 Inv G n D {E with s:=E.s.set b (.map es')} a {w with heap:=w.heap.setIfInBounds b (.map tY rk)}/\aC G w G {w with heap:=w.heap.setIfInBounds b (.map tY rk)}:=by
 obtain⟨hs1,hs2⟩:=heap_set (w:=w) (o':=.map tY rk) hb
 have dW:∀c k,({w with heap:=w.heap.setIfInBounds b (.map tY rk)}:World).cell? ⟨c,k,none⟩=w.cell? ⟨c,k,none⟩:=by
  intro c k
  by_cases hc:c=b
  ·subst hc
   unfold World.cell?
   simp only[hs1,hb]
  ·exact World.cell?_of_block (hs2 c hc)
 have hsz:({w with heap:=w.heap.setIfInBounds b (.map tY rk)}:World).heap.size=w.heap.size:=by simp
 have hp:aC G w G {w with heap:=w.heap.setIfInBounds b (.map tY rk)}:=⟨rfl,rfl,rfl,Nat.le_refl _,by rw[hsz];exact Nat.le_refl _,fun _ _=>Nat.le_refl _,fun c k _ _=>dW c k,fun c _ hc=>hs2 c (fun e=>by subst e;rw[ho]at hc;rcases hc with hc|hc<;>cases hc),fun _ _ h=>⟨h,rfl⟩,fun _ _ h=>⟨h,rfl⟩⟩
 have hne:∀c,G.O c≠.sh->({w with heap:=w.heap.setIfInBounds b (.map tY rk)}:World).heap[c]? =w.heap[c]? :=fun c hc=>hs2 c fun e=>hc (by rw[e];exact ho)
 refine⟨⟨⟨fun c hc=>h.aV.kS c (by rw[hsz]at hc;exact hc),fun c hc=>h.aV.kU c (by rw[hsz]at hc;exact hc)⟩,?_,h.size,fun i v hi=>?_,h.Jj,h.Rj,h.uE⟩,hp⟩
 ·intro c o hc
  have hc':(if c=b then some (SO.map es')else E.s c)=some o:=hc
  by_cases hcb:c=b
  ·rw[if_pos hcb]at hc'
   injection hc' with hc'
   subst hcb;subst hc'
   exact⟨ho,hR,tY,rk,hs1,Ew.1,fun j x y hx hy=>⟨hp.vr h.aV (Ew.2 j x y hx hy).1,hp.vr h.aV (Ew.2 j x y hx hy).2⟩⟩
  ·rw[if_neg hcb]at hc'
   obtain⟨r1,r2,r3⟩:=h.store c o hc'
   refine⟨r1,r2,?_⟩
   cases o with
   |cells cs=>
    obtain⟨c0,t0,k1,k2,k3⟩:=r3
    exact⟨c0,t0,(hs2 c hcb).trans k1,k2.mono (fun _ _ hv=>hp.vr h.aV hv) (fun c' j hc'=>⟨hc',rfl,hne c' (by rw[hc'];simp)⟩),k3⟩
   |map es=>
    obtain⟨e0,t0,k1,k2,k3⟩:=r3
    exact⟨e0,t0,(hs2 c hcb).trans k1,k2,fun j x y hx hy=>⟨hp.vr h.aV (k3 j x y hx hy).1,hp.vr h.aV (k3 j x y hx hy).2⟩⟩
 ·exact dt.frame (fun _ _ hv=>hp.vr h.aV hv) (fun c hc=>⟨rfl,rfl,hne c (by rcases hc with⟨j,hc⟩|hc<;>rw[hc]<;>simp)⟩) (fun c c' j _ hc=>⟨hc,rfl,hne c' (by rw[hc];simp)⟩) _ _ (fun d _ cs hcs=>⟨cs,hcs,rfl⟩) (h.cy i v hi)
theorem Jl(h:Inv G n D E a w){op:Op}{ty:TypeId}{kk:lI}{x k v:IX}{d:Option Nat}{K:St->Prop}(hd:bz n d=true)(hc:aq P op ty (.mapUpdate kk x k v)=true)(hw:jB P (.mapUpdate kk x k v) d E K):rS P G n D w a op ty d K:=by
 cases op<;>first|(simp[aq]at hc;done)|skip
 rename_i t y j u
 simp only[aq,Bool.and_eq_true]at hc
 obtain⟨⟨⟨hy,hj⟩,hu⟩,hc⟩:=hc
 split at hc<;>try(cases hc;done)
 rename_i kt et ht
 have b9:=Ls hc
 have hb:=BR.aR h hy
 have hbk:=BR.aR h hj
 have hbv:=BR.aR h hu
 have hw':xz kk E (xg true E k) (xg true E v) d K (xg true E x):=hw
 generalize xg true E x=xv at hb hw'
 generalize xg true E k=kv at hbk hw'
 generalize xg true E v=vv at hbv hw'
 unfold xz at hw'
 split at hw'<;>try(exact hw'.elim)
 rename_i b
 unfold Vw at hw'
 split at hw'<;>try(exact hw'.elim)
 rename_i es hes
 obtain⟨⟨hi,hkk,hks⟩,hK⟩:=hw'
 have e1:a.eval y=.map (some b):=VR.RY hb
 have hvv:VR w G.R vv (a.eval u):=by cases vv<;>first|exact hbv|(simp[dF]at hi)
 have hvk:=hbk.key hkk
 have hkv:=wm hkk hvk
 obtain⟨ho,hR,js,clock,hh,hsz,Ew⟩:=h.store b _ hes
 have eH:∀e∈js.toList,KV kk e.key:=fun e he=>by
  obtain⟨i,hi⟩:=List.mem_iff_getElem?.1 he
  have hlt:i<es.length:=by rw[<-hsz];have:=(List.getElem?_eq_some_iff.1 hi).1;simpa using this
  have h1:=Ew i _ e (List.getElem?_eq_getElem hlt) (by simpa using hi)
  exact wm (List.all_eq_true.1 hks _ (List.getElem_mem hlt)) h1.1
 have PH:fo kk (view kv)=true/\view kv=kv:=by cases kv<;>cases kk<;>simp_all [fo,view]
 rw[PH.2]at hK
 obtain⟨f1,f2⟩:=Cp hkk hvk es js.toList (by simpa using hsz) (fun j p y hp hy=>Ew j p y hp (by simpa using hy)) hks
 have lY:=Go.MapKept.run_getObj_map (P:=P) hh
 have hck:=b9.check w false _ hkv
 have xP:∀(U:St)(w':World),Inv G n D U a w'->Inv G n D (U.put d (.gK [])) (a.put d undef) w':=by
  intro U w' hτ
  have:=hτ.put (s':=U.s) (lp':=U.lp) d (fun i hi=>by subst hi;simpa[bz]using hd) (.gK []) undef hτ.aV (aC.refl G w') hτ.store (fun _ hx=>hx) (fun i t _ ht=>ht.elim) (fun i t _⟨cs,hcs⟩=>by cases hcs)
   (fun _ _ _ _=>⟨rfl,rfl,rfl⟩) (fun _ _ _ _ _ _ hcc=>⟨hcc,rfl,rfl⟩) (fun i hdi=>⟨#[],rfl,rfl,fun j x y hx=>by simp at hx⟩)
  cases d<;>exact this
 intro pos after gd next Q hn
 rcases b9.find w _ hkv js.toList eH with⟨q1,q2⟩|⟨m,e,q1,q2,q3,q4⟩
 ·obtain⟨_,g2⟩:=f1 q2
  rw[g2]at hK
  obtain⟨h1,h2⟩:=h.abT (rk:=clock+1) (tY:=js.push {key:=a.eval j,val:=a.eval u,born:=clock}) (es':=es++[(kv,view vv)]) hh ho hR ⟨by simp[hsz],fun i p z hp hz=>by
   rw[Array.getElem?_push]at hz
   by_cases hi':i=es.length
   ·subst hi'
    rw[if_pos hsz.symm]at hz
    simp at hp
    injection hz with hz
    subst hp;subst hz
    exact⟨hvk,hvv.view⟩
   ·rw[if_neg (by omega)]at hz
    have hlt:i<es.length:=by
     have:=(List.getElem?_eq_some_iff.1 hp).1
     simp at this;omega
    rw[List.getElem?_append_left hlt]at hp
    exact Ew i p z hp hz⟩
  refine sU (w':=_) ?_ (hn G _ _ _ (xP _ _ h1) h2 hK)
  simp[execOp,Instr.mapUpdate,run_underlying ht,e1,lY,hck,q1,run_setObj_map _ hh]
 ·obtain⟨p,g1,_,g2⟩:=f2 m e q2 q3 q4
  rw[g2]at hK
  have alW:m<js.size:=by have:=(List.getElem?_eq_some_iff.1 q2).1;simpa using this
  have hem:js[m]? =some e:=by simpa using q2
  have hst:=b9.stays w _ hkv
  obtain⟨h1,h2⟩:=h.abT (rk:=clock) (tY:=js.modify m fun e=>{e with key:=a.eval j,val:=a.eval u}) (es':=es.set m (kv,view vv)) hh ho hR ⟨by simp[hsz],fun i p z hp hz=>by
   rw[Array.getElem?_modify]at hz
   by_cases hi':m=i
   ·subst hi'
    rw[if_pos rfl,hem]at hz
    simp at hz
    rw[List.getElem?_set_self (by omega)]at hp
    injection hp with hp
    subst hp;subst hz
    exact⟨hvk,hvv.view⟩
   ·rw[if_neg hi']at hz
    rw[List.getElem?_set_ne hi']at hp
    exact Ew i p z hp hz⟩
  refine sU (w':=_) ?_ (hn G _ _ _ (xP _ _ h1) h2 hK)
  simp[execOp,Instr.mapUpdate,run_underlying ht,e1,lY,hck,q1,hem,q3,hst,run_setObj_map _ hh]
theorem RJ(h:Inv G n D E a w){op:Op}{ty:TypeId}{x:IX}{d:Option Nat}{K:St->Prop}(hd:bz n d=true)(hc:aq P op ty (.kz x)=true)(hw:jB P (.kz x) d E K):rS P G n D w a op ty d K:=by
 cases op<;>first|(simp[aq]at hc;done)|skip
 rename_i s t y
 cases x with
 |c _=>simp[aq]at hc
 |t i=>
 simp only[aq,Bool.and_eq_true,beq_iff_eq]at hc
 obtain⟨⟨hy,rfl⟩,hc⟩:=hc
 split at hc<;>try(cases hc;done)
 rename_i e ht
 split at hc<;>try(cases hc;done)
 rename_i he
 have hw':SC E d K (E2 (xg true E (.t i))):=hw
 have eU:∃m x0 cs cs',cs=.int .u8 x0::cs'/\xg true E (.t i)=.sl true 1 (m+1) cs/\K (E.put d (.sl false 1 (m+1) cs)):=by
  generalize xg true E (.t i)=xv at hw'
  unfold E2 at hw'
  split at hw'
  ·exact⟨_,_,_,_,rfl,rfl,hw'⟩
  ·exact hw'.elim
 obtain⟨m,x0,cs,cs',hcs,hx,hK⟩:=eU
 have hx':look E.e i=.sl true 1 (m+1) cs\/look E.e i=.when true (.sl true 1 (m+1) cs):=by
  have hx2:Ak true (look E.e i)=.sl true 1 (m+1) cs:=hx
  generalize look E.e i=av at hx2
  cases av<;>first|exact .inl hx2|skip
  rename_i b a'
  have hx2:(bif(b==true||b)&&inner a' then a' else .undef)=.sl true 1 (m+1) cs:=hx2
  cases b with
  |false=>simp at hx2
  |true=>
   refine .inr ?_
   cases hin:inner a' with
   |false=>rw[hin]at hx2;simp at hx2
   |true=>rw[hin]at hx2;simp at hx2;rw[hx2]
 have hin:i<n:=h.Qi (fun e=>by rcases hx' with h'|h'<;>rw[h']at e<;>cases e)
 have hey:a.tmps[i]? =some (a.eval y):=by
  have hyy:y=.tmp i:=by
   cases y<;>simp[bP]at hy
   rw[hy]
  subst hyy
  exact ja (by rw[h.size];exact hin)
 have hsl:VR w G.R (.sl true 1 (m+1) cs) (a.eval y)/\dx G w (.slot i 0) (.sl true 1 (m+1) cs) (a.eval y):=by
  have hs:=h.cy i _ hey
  rcases hx' with h'|h'<;>rw[h']at hs
  ·exact hs
  ·exact hs.1 rfl
 obtain⟨hvr,uG⟩:=hsl
 rcases VR.iJ hvr with⟨_,hm0,_⟩|⟨b0,adC,agc,e1,hl,hR,iG,hat⟩
 ·omega
 obtain⟨b,off,c,et,fz,q1,q2,q3,q4,q5,q6⟩:=uG _ _ _ e1 (.inr (by omega))
 injection q1 with q1;injection q1 with q1 q1' _
 subst q1;subst q1'
 let fz':Nat×Nat:=if fz.1==fz.2 then(c.size,c.size+1)else(min fz.1 c.size,max fz.2 (c.size+1))
 let w':World:=w.freeze ⟨b0,c.size,none⟩ 1
 have hlt:b0<w.heap.size:=(Array.getElem?_eq_some_iff.1 q4).1
 have hb0:w'.heap[b0]? =some (.cells c et fz'):=by
  show(w.freeze ⟨b0,c.size,none⟩ 1).heap[b0]? =_
  unfold World.freeze
  simp only[Nat.succ_ne_self,if_false,Array.getElem?_modify,if_true,q4,Option.map_some]
  rfl
 have Mz:∀k,k≠b0->w'.heap[k]? =w.heap[k]? :=by
  intro k hk
  show(w.freeze ⟨b0,c.size,none⟩ 1).heap[k]? =_
  unfold World.freeze
  simp only[Nat.succ_ne_self,if_false,Array.getElem?_modify]
  rw[if_neg (Ne.symm hk)]
 have hsz:w'.heap.size=w.heap.size:=by
  show(w.freeze ⟨b0,c.size,none⟩ 1).heap.size=_
  unfold World.freeze
  simp
 have dW:∀b k,w'.cell? ⟨b,k,none⟩=w.cell? ⟨b,k,none⟩:=by
  intro k j
  by_cases hk:k=b0
  ·subst hk
   unfold World.cell?
   simp only[hb0,q4]
  ·exact World.cell?_of_block (Mz k hk)
 have hfz:∀k,k<c.size->¬(fz'.1<=k/\k<fz'.2):=by
  intro k hk
  show¬((if fz.1==fz.2 then(c.size,c.size+1)else(min fz.1 c.size,max fz.2 (c.size+1)):Nat×Nat).1<=k/\k<(if fz.1==fz.2 then(c.size,c.size+1)else(min fz.1 c.size,max fz.2 (c.size+1)):Nat×Nat).2)
  by_cases hf:fz.1=fz.2
  ·simp only[hf,beq_self_eq_true,if_true];omega
  ·have:(fz.1==fz.2)=false:=by simpa using hf
   rw[this]
   simp only[Bool.false_eq_true,if_false]
   intro hh
   have q7:=q6.2
   by_cases hc2:fz.1<c.size
   ·exact q6.1 fz.1 hc2 ⟨Nat.le_refl _,by omega⟩
   ·omega
 have akl:fz'.1<=fz'.2:=by
  show(if fz.1==fz.2 then(c.size,c.size+1)else(min fz.1 c.size,max fz.2 (c.size+1)):Nat×Nat).1<=(if fz.1==fz.2 then(c.size,c.size+1)else(min fz.1 c.size,max fz.2 (c.size+1)):Nat×Nat).2
  split
  ·show c.size<=c.size+1;omega
  ·show min fz.1 c.size<=max fz.2 (c.size+1);omega
 have hp:aC G w G w':=⟨rfl,rfl,rfl,Nat.le_refl _,by rw[hsz];exact Nat.le_refl _,fun _ _=>Nat.le_refl _,fun b k _ _=>dW b k,fun b _ hb=>Mz b (fun e=>by subst e;rw[q2]at hb;rcases hb with hb|hb<;>cases hb),fun _ _ h=>⟨h,rfl⟩,fun _ _ h=>⟨h,rfl⟩⟩
 have hne:∀k,G.O k≠.slot i 0->w'.heap[k]? =w.heap[k]? :=fun k hk=>Mz k fun e=>hk (by rw[e];exact q2)
 have hI:Inv G n D E a w':=by
  refine⟨⟨fun c hc=>h.aV.kS c (by rw[hsz]at hc;exact hc),fun c hc=>h.aV.kU c (by rw[hsz]at hc;exact hc)⟩,?_,h.size,fun k v hk=>?_,h.Jj,h.Rj,h.uE⟩
  ·exact h.store.mono h.aV hp (fun b hb=>⟨hb,rfl,hne b (by rw[hb];simp)⟩) (fun b c j _ hc=>⟨hc,rfl,hne c (by rw[hc];simp)⟩)
  ·by_cases hki:k=i
   ·subst hki
    have hv:v=a.eval y:=by rw[hey]at hk;exact(Option.some.inj hk).symm
    subst hv
    have hO:dx G w' (.slot k 0) (.sl true 1 (m+1) cs) (a.eval y):=by
     intro base m' dy hv hc
     rw[e1]at hv
     injection hv with v1 v2 v3
     exact⟨b0,adC,c,et,fz',v1.symm,q2,q3,hb0,by rw[q5,v3],hfz,akl,q6.2.2.1,.inr ⟨Nat.succ_pos _,x0,by
      obtain⟨u,u1,u2,_⟩:=hat
      have k1:=u1 0 (.int .u8 x0) (by rw[hcs];rfl)
      have k2:=VR.cF (u2 0 (.int .u8 x0) (by rw[hcs];rfl))
      rw[q6.2.2.1,cell_of_row w q4,k2]at k1
      exact k1⟩,q6.2.2.2.2⟩
    have hV:dt G w' E.e a.tmps k (.sl true 1 (m+1) cs) (a.eval y):=⟨hp.vr h.aV hvr,hO⟩
    rcases hx' with h'|h'<;>rw[h']
    ·exact hV
    ·exact⟨fun _=>hV,fun h=>by cases h⟩
   ·exact dt.frame (fun _ _ hv=>hp.vr h.aV hv) (fun c hc=>⟨rfl,rfl,hne c (by rcases hc with⟨j,hc⟩|hc<;>rw[hc]<;>simp[hki])⟩) (fun c c' j _ hc=>⟨hc,rfl,hne c' (by rw[hc];simp)⟩) _ _ (fun d _ cs hcs=>⟨cs,hcs,rfl⟩) (h.cy k v hk)
 have Mx:Inv G n D (E.put d (.sl false 1 (m+1) cs)) (a.put d (a.eval y)) w':=hI.Qv hd (av:=.sl true 1 (m+1) cs) rfl (hp.vr h.aV hvr)
 intro pos after gd next Q hn
 refine a8 (v:=a.eval y) (w':=w') ?_ (hn G _ _ _ Mx hp hK)
 have RV:w.shape? b0=some (et,c.size):=by
  unfold World.shape?
  rw[q4]
 have WG:(convert s s (.slice (some ⟨b0,adC,none⟩) (m+1) agc)).run P w=.ok (.slice (some ⟨b0,adC,none⟩) (m+1) agc) w':=by
  simp[convert,run_underlying ht,run_underlying he,markStringish,RV]
  rfl
 simp[execOp,e1,WG]
theorem Wi(h:Inv G n D E a w){op:Op}{ty:TypeId}{x:IX}{d:Option Nat}{K:St->Prop}(hd:bz n d=true)(hc:aq P op ty (.sH x)=true)(hw:jB P (.sH x) d E K):rS P G n D w a op ty d K:=by
 have hw':SC E d K (Dq (xg true E x)):=hw
 have key:∀y,bP y x=true->∃vs,K (E.put d (.gK (views vs)))/\Inv G n D (E.put d (.gK (views vs))) (a.put d (a.eval y)) w:=by
  intro y hy
  have hb:=BR.aR h hy
  generalize xg true E x=xv at hb hw'
  unfold Dq at hw'
  split at hw'<;>try(exact hw'.elim)
  rename_i vs
  refine⟨vs,hw',?_⟩
  obtain⟨ys,e,hl,hr⟩:=VR.TC (show VR w G.R (.gK vs) (a.eval y) from hb)
  have:=h.put (s':=E.s) (lp':=E.lp) d (fun i hi=>by subst hi;simpa[bz]using hd) (.gK (views vs)) (a.eval y) h.aV (aC.refl G w) h.store (fun _ hx=>hx) (fun i t _ ht=>ht.elim) (fun i t _⟨cs,hcs⟩=>by cases hcs)
   (fun _ _ _ _=>⟨rfl,rfl,rfl⟩) (fun _ _ _ _ _ _ hcc=>⟨hcc,rfl,rfl⟩) (fun i hdi=>⟨ys,e,by simpa[views]using hl,fun j x y hx hy=>by
     rw[eW]at hx
     cases hj:vs[j]? with
     |none=>rw[hj]at hx;cases hx
     |some c=>
      rw[hj]at hx
      simp at hx
      subst hx
      exact⟨(hr j c y hj hy).view,dx.view ..⟩⟩)
  cases d<;>exact this
 intro pos after g next Q hn
 cases op<;>first|(simp[aq]at hc;done)|skip
 ·rename_i y
  obtain⟨vs,h1,h2⟩:=key y hc
  exact a8 rfl (hn G _ _ _ h2 (aC.refl G w) h1)
 ·rename_i y
  obtain⟨vs,h1,h2⟩:=key y hc
  exact a8 rfl (hn G _ _ _ h2 (aC.refl G w) h1)
end
end Go.AB
end
section
namespace Go.AB
open Go
section
variable{P:Program}{G G':Gh}{n:Nat}{D:List Deferred}{E:St}{a:Act}{w w':World}
theorem aW.at(h:aW G w E.s){b off m:Nat}{cs:List AV}(hs:E.s b=some (.cells cs))(dX:off+m<=cs.length):At w G.R b off (AB.views (AB.sub cs off m)):=by
 obtain⟨_,_,c,t,h4,h5,h6⟩:=h b _ hs
 have hat:=(At.LF h4 h5 h6).sub off m
 rwa[Nat.zero_add,L2]at hat
structure uD(P:Program)(w:World)(R:Nat->Nat)(sz m:Nat)(ds:List AV)(v:Value)(news:List Value):Prop where
 len:news.length=m*sz
 zU:ds.length=m*sz
 lenOf:∀w',(Builtin.lenOf v).run P w'=.ok m w'
 first:∀k,k<=m->∀w',w'.heap=w.heap->(Builtin.firstCells sz k v).run P w'=.ok (news.take (k*sz)).toArray w'
 one:∀u∈news,u.oneCell'=true
 oI:∀(j:Nat)(c:AV)(u:Value),ds[j]? =some c->news[j]? =some u->VR w R c u
 fl:Fl ds
 vw:views ds=ds
theorem q9(ds:List AV):views (views ds)=views ds:=by
 unfold views
 rw[List.map_map]
 apply List.map_congr_left
 intro a _
 cases a<;>rfl
theorem uD.src{R:Nat->Nat}{sz m:Nat}{ds:List AV}{v:Value}{news:List Value}(h:uD P w R sz m ds v news):Src P w R sz m ds v news:=⟨h.len,h.zU,h.lenOf,fun w' hw'=>by rw[h.first m (Nat.le_refl m) w' hw',List.take_of_length_le (by rw[h.len];exact Nat.le_refl _)],h.one,h.oI,h.fl⟩
theorem uD.abC{R:Nat->Nat}{sz m b off cap:Nat}{cs:List AV}(hl:cs.length=m*sz)(hat:At w R b off cs):∃news,uD P w R sz m (views cs) (.slice (some ⟨b,off,none⟩) m cap) news:=by
 have WD:=hat.views
 obtain⟨us,h1,h2,h3⟩:=WD.oI
 have hfl:Fl (views cs):=by obtain⟨_,_,_,hf⟩:=WD;exact hf
 have hlen:(views cs).length=m*sz:=by simp[views,hl]
 refine⟨us,by rw[h1,hlen],hlen,fun _=>rfl,fun k hk w' hw'=>?_,fun u hu=>?_,h3,hfl,q9 cs⟩
 ·have hkl:k*sz<=us.length:=by rw[h1,hlen];exact Nat.mul_le_mul_right _ hk
  exact run_firstCells_some w' sz k ⟨b,off,none⟩ m cap (us.take (k*sz)) (by simp;omega) fun j v hj=>by
   rw[Ck hw']
   rw[List.getElem?_take]at hj
   split at hj
   ·exact h2 j v hj
   ·cases hj
 ·obtain⟨j,hj⟩:=List.mem_iff_getElem?.1 hu
  have hlt:j<(views cs).length:=by rw[<-h1];exact(List.getElem?_eq_some_iff.1 hj).1
  have hx:=List.getElem?_eq_getElem hlt
  exact iW (hfl _ (List.getElem_mem hlt)) (h3 j _ u hx hj)
theorem uD.none{R:Nat->Nat}{sz:Nat}:uD P w R sz 0 [] (.slice none 0 0) []:=
 ⟨by simp,by simp,fun _=>rfl,fun k hk w' _=>by
   have:k=0:=by omega
   subst this;simp[Builtin.firstCells],fun u hu=>by simp at hu,fun j c u hc=>by simp at hc,Fl.nil,rfl⟩
theorem uD.empty{R:Nat->Nat}{sz cap:Nat}{base:Option Addr}:uD P w R sz 0 [] (.slice base 0 cap) []:=
 ⟨by simp,by simp,fun _=>rfl,fun k hk w' _=>by
   have:k=0:=by omega
   subst this
   cases base with
   |none=>simp[Builtin.firstCells]
   |some x=>
    obtain⟨b,off,sp⟩:=x
    simp[Builtin.firstCells,loadCells,loadCellsFrom],fun u hu=>by simp at hu,fun j c u hc=>by simp at hc,Fl.nil,rfl⟩
theorem uD.str{R:Nat->Nat}{l:List UInt8}:uD P w R 1 l.length (l.map fun c=>.int .u8 c.toNat) (.string ⟨l.toArray⟩) (l.map fun c=>.int .u8 c.toNat)where
 len:=by simp
 zU:=by simp
 lenOf:=fun w'=>by simp[Builtin.lenOf,ByteArray.size]
 first:=fun k hk w' _=>by
  have:((ByteArray.mk l.toArray).extract 0 k).data=(l.take k).toArray:=by
   rw[ByteArray.data_extract]
   apply Array.ext'
   simp
  simp[Builtin.firstCells,this,List.map_take]
 one:=(Src.Sm (P:=P) (w:=w) (R:=R)).one
 oI:=(Src.Sm (P:=P) (w:=w) (R:=R)).oI
 fl:=F5 l
 vw:=by simp[views,view]
theorem tc{m sz off:Nat}{o:Option SO}{k:Nat}{ds:List AV}(h:ki m sz off o=some (k,ds)):∃cs,o=some (.cells cs)/\off+m*sz<=cs.length/\k=m/\ds=views (AB.sub cs off (m*sz)):=by
 unfold ki at h
 split at h
 ·rename_i cs
  by_cases hl:off+m*sz<=cs.length
  ·rw[decide_eq_true hl]at h;injection h with h;injection h with h1 h2;exact⟨cs,rfl,hl,h1.symm,h2.symm⟩
  ·rw[decide_eq_false hl]at h;cases h
 ·cases h
theorem IP(h:Inv G n D E a w){sz m:Nat}{x:IX}{o:Operand}{ds:List AV}(hx:bP o x=true)(hs:uL E.s sz (E.x x)=some (m,ds)):∃news,uD P w G.R sz m ds (a.eval o) news:=by
 have hb:=XR.aR h hx
 generalize E.x x=av at hb hs
 unfold uL at hs
 split at hs
 ·rename_i ow s' k cs
  by_cases he:s'=sz
  ·subst he
   rw[beq_self_eq_true]at hs
   injection hs with hs;injection hs with h1 h2;subst h1;subst h2
   rcases VR.iJ hb with⟨e0,rfl,rfl⟩|⟨b,off,cap,e,hl,_,_,hat⟩
   ·obtain⟨_,_,e⟩:=e0.ex
    rw[e];exact⟨[],uD.empty⟩
   ·rw[e];exact uD.abC hl hat
  ·rw[show(s'==sz)=false by simpa using he]at hs
   by_cases hk:k=0
   ·subst hk
    injection hs with hs;injection hs with h1 h2;subst h1;subst h2
    rcases VR.iJ hb with⟨(e|⟨_,_,_,e⟩),_,_⟩|⟨b,off,cap,e,_⟩<;>rw[e]<;>exact⟨[],uD.empty⟩
   ·rw[show(k==0)=false by simpa using hk]at hs;cases hs
 ·rename_i l
  by_cases he:sz=1
  ·subst he
   rw[beq_self_eq_true]at hs
   injection hs with hs;injection hs with h1 h2;subst h1;subst h2
   rw[VR.fm hb];exact⟨_,uD.str⟩
  ·rw[show(sz==1)=false by simpa using he]at hs;cases hs
 ·rename_i b off k cap
  by_cases hk:k=0
  ·subst hk
   injection hs with hs;injection hs with h1 h2;subst h1;subst h2
   rcases VR.cj hb with e|⟨_,_,e⟩<;>rw[e]<;>exact⟨[],uD.empty⟩
  ·rw[show(k==0)=false by simpa using hk]at hs
   obtain⟨cs,e1,e2,rfl,rfl⟩:=tc hs
   rcases VR.cj hb with e|⟨h0,_,_⟩
   ·rw[e]
    have hsn:=uD.abC (P:=P) (cap:=cap) (show(AB.views (AB.sub cs off (m*sz))).length=m*sz by simp[views,kl e2]) (h.store.at e1 e2)
    rwa[q9]at hsn
   ·exact absurd h0 hk
 ·cases hs
theorem Inv.Ab(h:Inv G n D E a w){b off:Nat}{cs ds:List AV}{news:List Value}{c:Array Value}{t:TypeId}(hs:E.s b=some (.cells cs))(hb:w.heap[b]? =some (.cells c t (0,0)))
 (hlen:news.length=ds.length)(dX:off+ds.length<=cs.length)(hfl:Fl ds)(hvw:views ds=ds)(vo:∀(j:Nat)(x:AV)(y:Value),ds[j]? =some x->news[j]? =some y->VR w G.R x y):
 Inv G n D {E with s:=E.s.set b (.cells (setAt cs off ds))} a (w.setRow b (laid c off news))/\aC G w G (w.setRow b (laid c off news)):=by
 obtain⟨q2,q3,c',t',q4,q5,q6⟩:=h.store b _ hs
 rw[hb]at q4;injection q4 with q4;injection q4 with q4 q4' _
 subst q4;subst q4'
 have hne:∀j,G.O b≠.cell b j:=fun j=>by rw[q2];simp
 have bA:aC G w G (w.setRow b (laid c off news)):=aC.write hb (by rw[q2];simp) (fun k hk=>by rw[q3]at hk;omega) (Nat.le_refl _) (fun _ _=>⟨rfl,rfl⟩)
 have kF:=dG.lay hb bA h.aV q5 hlen dX hne (fun j x y hx hy=>⟨vo j x y hx hy,by
  rw[<-hvw,eW]at hx
  cases hz:ds[j]? with
  |none=>rw[hz]at hx;cases hx
  |some x'=>rw[hz]at hx;simp at hx;rw[<-hx];exact dx.view ..⟩)
 have hst:aW G (w.setRow b (laid c off news)) (E.s.set b (.cells (setAt cs off ds))):=by
  intro b' o hb'
  unfold ab.set at hb'
  by_cases hbg:b'=b
  ·rw[if_pos hbg]at hb';injection hb' with hb';subst hb';subst hbg
   exact⟨q2,q3,_,t,setRow_heap w b' c _ t _ hb,kF,Dy.setAt q6 hfl off⟩
  ·rw[if_neg hbg]at hb'
   obtain⟨r1,r2,r3⟩:=h.store b' o hb'
   refine⟨r1,r2,?_⟩
   have hbk:=setRow_other w b b' (laid c off news) hbg
   cases o with
   |cells cs=>
    obtain⟨c0,t0,r4,r5,r6⟩:=r3
    exact⟨c0,t0,hbk.trans r4,r5.mono (fun _ _ hv=>bA.vr h.aV hv) (fun b'' j rp=>⟨rp,rfl,setRow_other w b b'' _ (fun e=>by subst e;rw[q2]at rp;cases rp)⟩),r6⟩
   |map es=>
    obtain⟨js,clock,r4,r5,r6⟩:=r3
    exact⟨js,clock,hbk.trans r4,r5,fun j x y hx hy=>⟨bA.vr h.aV (r6 j x y hx hy).1,bA.vr h.aV (r6 j x y hx hy).2⟩⟩
 obtain⟨h2,_⟩:=h.written (E':={E with s:=E.s.set b (.cells (setAt cs off ds))}) hb (.inr q2) q3 rfl hst (fun k=>.inl ⟨rfl,by rw[q2];simp⟩)
 exact⟨h2,bA⟩
theorem Inv.Qw(h:Inv G n D E a w){d:Option Nat}(hd:bz n d=true){av:AV}{v:Value}(hi:dF av=true)(hv:VR w G.R av v)(PH:view av=av):Inv G n D (E.put d av) (a.put d v) w:=by
 have:=h.put (s':=E.s) (lp':=E.lp) d (fun i hi=>by subst hi;simpa[bz]using hd) av v h.aV (aC.refl G w) h.store (fun _ hx=>hx) (fun i t _ ht=>(fc hi t ht).elim) (fun i t _⟨cs,hcs⟩=>(pk hi cs hcs).elim)
  (fun _ _ _ _=>⟨rfl,rfl,rfl⟩) (fun _ _ _ _ _ _ hcc=>⟨hcc,rfl,rfl⟩) (fun i hdi=>by
    rw[dt.rA hi]
    refine⟨hv,?_⟩
    rw[<-PH];exact dx.view ..)
 cases d<;>exact this
theorem Inv.adF(h:Inv G n D E a w){d:Option Nat}(hd:bz n d=true):Inv G n D (E.put d (.gK [])) (a.put d (.tuple #[])) w:=by
 have:=h.put (s':=E.s) (lp':=E.lp) d (fun i hi=>by subst hi;simpa[bz]using hd) (.gK []) (.tuple #[]) h.aV (aC.refl G w) h.store (fun _ hx=>hx) (fun i t _ ht=>ht.elim) (fun i t _⟨cs,hcs⟩=>by cases hcs)
  (fun _ _ _ _=>⟨rfl,rfl,rfl⟩) (fun _ _ _ _ _ _ hcc=>⟨hcc,rfl,rfl⟩) (fun i hdi=>⟨#[],rfl,rfl,fun j x y hx=>by simp at hx⟩)
 cases d<;>exact this
theorem Mr(h:Inv G n D E a w){op:Op}{ty:TypeId}{sz m:Nat}{z:List AV}{ps:List (Nat×Nat×IX)}{d:Option Nat}{K:St->Prop}(hd:bz n d=true)(hc:aq P op ty (.j9 sz m z ps)=true)(hw:jB P (.j9 sz m z ps) d E K):rS P G n D w a op ty d K:=by
 cases op<;>first|(simp[aq]at hc;done)|skip
 rename_i t m' qs
 simp only[aq,Bool.and_eq_true,beq_iff_eq]at hc
 obtain⟨rfl,hc⟩:=hc
 split at hc<;>try(cases hc;done)
 rename_i e ht
 have ht:=dL ht
 simp only[Bool.and_eq_true]at hc
 obtain⟨⟨⟨⟨hs,oZ⟩,hp⟩,WM⟩,hz⟩:=hc
 obtain⟨i,hi,zz⟩:=nj hs
 rw[hi]at hz
 simp only at hz
 split at hz<;>try(cases hz;done)
 rename_i zv hzv
 simp only[Bool.and_eq_true,beq_iff_eq]at hz
 obtain⟨hzr,hzs⟩:=hz
 have oZ:=of_decide_eq_true oZ
 have WM:=of_decide_eq_true WM
 have hw':xl sz m E d K (fill (xg true E) z ps):=hw
 cases hfl:fill (xg true E) z ps with
 |none=>rw[hfl]at hw';exact hw'.elim
 |some ds=>
  rw[hfl]at hw'
  obtain⟨hlen,hk⟩:=hw'
  obtain⟨hl,hpa⟩:=zY _ _ hp
  obtain⟨hz1,hz2⟩:=Fk hzr
  have eU:Row w G.R z ((Array.range (m*sz)).map (zv.cells[·% zv.cells.size]!)):=by
   rw[<-hzs,xd]
   exact⟨by simpa using hz1,fun j c u hc hu=>uW (hz2 j c u hc (by simpa using hu)) w G.R,F7 hzr⟩
  have hf:∀(o:Operand)(x:IX),bP o x=true->dF (xg true E x)=true->VR w G.R (xg true E x) (a.eval o):=fun o x hx hi=>by
   have:=BR.aR h hx
   generalize xg true E x=av at hi this
   cases av<;>first|exact this|(simp[dF]at hi)
  obtain⟨us,h1,h2⟩:=tg h hf (fun i=>some (i*sz,sz)) qs.toList ps z ds _ ⟨hl,fun j q p hq hp'=>by
   obtain⟨⟨e1,e2⟩,hx⟩:=hpa j q p hq hp'
   exact⟨by rw[e1,e2],hx⟩⟩ eU hfl
  obtain⟨G1,h3,h4⟩:=h.Sj (t:=e) (c:=us) (cs:=views ds) hd (.inr ⟨m,m,rfl,rfl⟩) (fun G' w' o hp=>oq (h2.mono fun _ _ hv=>hp.vr h.aV hv)) h2.2.2.views
  intro pos after gd next Q hn
  refine a8 ?_ (hn G1 _ _ _ h3 h4 (hk w.heap.size (h.store.get_none h.aV)))
  by_cases hm0:m*sz=0
  ·have hm:m=0:=by
    rcases Nat.mul_eq_zero.1 hm0 with h|h
    ·exact h
    ·omega
   subst hm
   simp only[Nat.zero_mul]at h1
   have:(Array.range 0).map (zv.cells[·% zv.cells.size]!)= #[]:=by simp
   rw[this]at h1
   have hr0:Array.map (fun _:Nat=>(default:Value)) (Array.range 0)= #[]:=by apply Array.ext';simp
   simp[execOp,Instr.buildSlice,run_underlying ht,run_sizeOf hs,hr0,h1,newRow]
  ·have h24:¬(16777216<m*sz):=by omega
   simp[execOp,Instr.buildSlice,run_underlying ht,run_sizeOf hs,h24,hm0,zeroValue,typeInfo,hi,hzv,h1,newRow]
end
end Go.AB
end
section
namespace Go.AB
open Go
section
variable{P:Program}{G G':Gh}{n:Nat}{D:List Deferred}{E:St}{a:Act}{w w':World}
theorem Dk(cs:List AV)(k:Nat):setAt cs k []=cs:=by simp[setAt]
theorem qx{s:ab}{b:Nat}{o:SO}(h:s b=some o):s.set b o=s:=by
 funext i
 unfold ab.set
 split
 ·rename_i e;subst e;exact h.symm
 ·rfl
theorem Dg{sz b off cap:Nat}{o:Option SO}(h:Df sz b off cap o):∃cs,o=some (.cells cs)/\off+cap*sz<=cs.length:=by
 unfold Df at h
 split at h
 ·exact⟨_,rfl,h⟩
 ·exact h.elim
theorem xe{e:TypeId}{z:List AV}(hz:qA P e z=true):∃v:Value,(∀w,(zeroValue e).run P w=.ok v w)/\(∃i,P.info? e=some i/\i.zero=some v/\i.size=z.length)/\∀(q:Nat),(Builtin.zeroCells v.cells q).toList.length=q*z.length/\(List.replicate q z).flatten.length=q*z.length/\
 (∀(j:Nat)(x:AV)(y:Value),(List.replicate q z).flatten[j]? =some x->(Builtin.zeroCells v.cells q).toList[j]? =some y->cR y x=true)/\Fl (List.replicate q z).flatten/\(∀y∈(Builtin.zeroCells v.cells q).toList,y.oneCell'=true):=by
 obtain⟨i,v,h1,h2,h3,h4,h5⟩:=xN hz
 refine⟨v,fun w=>by simp[zeroValue,typeInfo,h1,h2],⟨i,h1,h2,h3⟩,fun q=>?_⟩
 have e0:Builtin.zeroCells v.cells q=((List.replicate q v.cells.toList).flatten).toArray:=xd v.cells q
 rw[e0]
 have h4:=h4 default fun _=>0
 have hlz:v.cells.toList.length=z.length:=by simpa using h4.1
 have Cw:∀y∈v.cells.toList,y.oneCell'=true:=by
  intro y hy
  obtain⟨j,hj⟩:=List.mem_iff_getElem?.1 hy
  have hlt:j<z.length:=by rw[<-hlz];exact(List.getElem?_eq_some_iff.1 hj).1
  exact iW (h4.2.2 _ (List.getElem_mem hlt)) (h4.2.1 j _ y (List.getElem?_eq_getElem hlt) (by simpa using hj))
 have hlen:∀(α:Type)(l:List α),(List.replicate q l).flatten.length=q*l.length:=fun α l=>by simp
 refine⟨by show(List.replicate q v.cells.toList).flatten.length=_;rw[hlen,hlz],hlen _ z,?_,?_,?_⟩
 ·show∀(j:Nat)(x:AV)(y:Value),(List.replicate q z).flatten[j]? =some x->(List.replicate q v.cells.toList).flatten[j]? =some y->cR y x=true
  clear e0 hlen
  induction q with
  |zero=>intro j x y hx;simp at hx
  |succ q ih=>
   intro j x y hx hy
   simp only[List.replicate_succ,List.flatten_cons]at hx hy
   by_cases hj:j<z.length
   ·rw[List.getElem?_append_left hj]at hx
    rw[List.getElem?_append_left (by omega)]at hy
    exact h5 j x y hx (by simpa using hy)
   ·rw[List.getElem?_append_right (by omega)]at hx
    rw[List.getElem?_append_right (by omega),hlz]at hy
    exact ih _ x y hx hy
 ·intro x hx
  simp only[List.mem_flatten,List.mem_replicate]at hx
  obtain⟨l,⟨_,rfl⟩,hm⟩:=hx
  exact h4.2.2 x hm
 ·intro y hy
  simp only[List.mem_flatten,List.mem_replicate]at hy
  obtain⟨l,⟨_,rfl⟩,hm⟩:=hy
  exact Cw y hm
theorem Pf(h:Inv G n D E a w){op:Op}{ty:TypeId}{sz by':Nat}{z:List AV}{x y:IX}{d:Option Nat}{K:St->Prop}(hd:bz n d=true)(hc:aq P op ty (.fk sz by' z x y)=true)(hw:jB P (.fk sz by' z x y) d E K):rS P G n D w a op ty d K:=by
 cases op<;>first|(simp[aq]at hc;done)|skip
 rename_i c
 simp only[aq]at hc
 split at hc<;>try(cases hc;done)
 rename_i u v t t' hb
 have hce:=s5 hb
 subst hce
 simp only[Bool.and_eq_true]at hc
 obtain⟨⟨hu,hv⟩,hc⟩:=hc
 split at hc<;>try(cases hc;done)
 rename_i e ht
 have ht:=dL ht
 simp only[Bool.and_eq_true]at hc
 obtain⟨⟨⟨⟨⟨⟨hs,hby⟩,oZ⟩,vi⟩,hzl⟩,hzi⟩,ht'⟩:=hc
 obtain⟨i,hi,zz⟩:=nj hs
 obtain⟨zv,_,⟨i1,hi1,hz,hz1⟩,Zs⟩:=xe hzi
 rw[hi]at hi1;injection hi1 with hi1;subst hi1
 have oZ:=of_decide_eq_true oZ
 have vi:=of_decide_eq_true vi
 have hby:i.bytes=by':=by
  unfold oW at hby
  rw[hi]at hby
  simpa using hby
 have ht2:(∃e',P.underlying t'=some (.slice e'))\/P.underlying t'=some .string:=by
  rcases Bool.or_eq_true .. ▸ht' with h|h
  ·cases he:dC P t' with
   |none=>rw[he]at h;cases h
   |some e'=>exact .inl ⟨e',dL he⟩
  ·exact .inr (FB h)
 have hw':eY sz by' z E d K (E.x x) (uL E.s sz (E.x y)):=hw
 have hbx:=XR.aR h hu
 generalize E.x x=xv at hw' hbx
 cases hsv:uL E.s sz (E.x y)with
 |none=>rw[hsv]at hw';unfold eY at hw';split at hw'<;>first|(rename_i hh;cases hh;done)|exact hw'.elim
 |some md=>
 obtain⟨m,ds⟩:=md
 rw[hsv]at hw'
 obtain⟨news,WW⟩:=IP (P:=P) h hv hsv
 have e9:=WW.src
 unfold eY at hw'
 split at hw'<;>try(exact hw'.elim)
 rename_i b off k cap _ _ he0
 injection he0 with he0;injection he0 with e1 e2;subst e1;subst e2
 cases hol:qh E.s sz b off k with
 |none=>rw[hol]at hw';exact hw'.elim
 |some olds=>
 rw[hol]at hw'
 obtain⟨acZ,abk,PG⟩:=hw'
 have hold:k=0/\olds=[]\/∃cs,E.s b=some (.cells cs)/\off+k*sz<=cs.length/\olds=views (AB.sub cs off (k*sz)):=by
  unfold qh at hol
  by_cases hk:k=0
  ·subst hk
   injection hol with hol;exact .inl ⟨rfl,hol.symm⟩
  ·rw[show(k==0)=false by simpa using hk]at hol
   cases hca:ki k sz off (E.s b)with
   |none=>rw[hca]at hol;cases hol
   |some q=>
    rw[hca]at hol;injection hol with hol
    obtain⟨q1,q2⟩:=q
    obtain⟨cs,e1,e2,_,e4⟩:=tc hca
    exact .inr ⟨cs,e1,e2,by rw[<-hol];exact e4⟩
 by_cases dX:k+m<=cap
 ·rcases abk dX with⟨rfl,hk⟩|⟨cO,hk⟩
  ·have AU:news=[]:=List.eq_nil_of_length_eq_zero (by simpa using e9.len)
   subst AU
   intro pos after gd next Q hn
   refine a8 (w':=w) (v:=a.eval u) ?_ (hn G _ _ _ (h.Qw hd rfl hbx rfl) (aC.refl G w) hk)
   rcases VR.cj hbx with e1|⟨rfl,rfl,e1⟩
   ·have b9:=mr (ty:=ty) (w:=w) ht ht2 hi zz e9 (b:=b) (off:=off) (k:=k) (cap:=cap) dX (w':=w) rfl
    simp only[Nat.add_zero]at b9
    simp[execOp,resolve,invoke,builtin,e1,b9]
   ·have b9:=tK (ty:=ty) ht ht2 hi zz e9
    simp[execOp,resolve,invoke,builtin,e1,b9]
  ·obtain⟨cs,hsb,WH⟩:=Dg cO
   rw[hsb]at hk
   have hk':K ({E with s:=E.s.set b (.cells (setAt cs (off+k*sz) ds))}.put d (.arr b off (k+m) cap)):=hk
   obtain⟨_,_,c,et,hcb,hcr,hcf⟩:=h.store b _ hsb
   have hmul:off+k*sz+m*sz<=cs.length:=by
    rw[Nat.add_assoc,<-Nat.add_mul]
    exact Nat.le_trans (Nat.add_le_add_left (Nat.mul_le_mul_right _ dX) _) WH
   by_cases hm:m=0
   ·subst hm
    have AU:news=[]:=List.eq_nil_of_length_eq_zero (by simpa using e9.len)
    have hds:ds=[]:=List.eq_nil_of_length_eq_zero (by simpa using e9.zU)
    subst AU;subst hds
    rw[Dk,qx hsb,Nat.add_zero]at hk'
    intro pos after gd next Q hn
    refine a8 (w':=w) (v:=a.eval u) ?_ (hn G _ _ _ (h.Qw hd rfl hbx rfl) (aC.refl G w) hk')
    rcases VR.cj hbx with e1|⟨rfl,rfl,e1⟩
    ·have b9:=mr (ty:=ty) (w:=w) ht ht2 hi zz e9 (b:=b) (off:=off) (k:=k) (cap:=cap) dX (w':=w) rfl
     simp only[Nat.add_zero]at b9
     simp[execOp,resolve,invoke,builtin,e1,b9]
    ·have b9:=tK (ty:=ty) ht ht2 hi zz e9
     simp[execOp,resolve,invoke,builtin,e1,b9]
   ·have e1:=VR.tu hbx (by omega)
    obtain⟨h2,hp2⟩:=h.Ab (off:=off+k*sz) (ds:=ds) (news:=news) hsb hcb (by rw[e9.len,e9.zU]) (by rw[e9.zU];exact hmul) e9.fl WW.vw e9.oI
    have WI:off+k*sz+news.length<=c.size:=by rw[e9.len,hcr.1];exact hmul
    have hst:=eF (P:=P) b (off+k*sz) et (0,0) news 0 c w hcb (fun j _ hj=>by simp at hj) (by simpa using WI) e9.one
    have b9:=mr (ty:=ty) (w:=w) ht ht2 hi zz e9 (b:=b) (off:=off) (k:=k) (cap:=cap) dX (w':=w.setRow b (laid c (off+k*sz) news)) (by simpa[laid]using hst)
    intro pos after gd next Q hn
    refine a8 ?_ (hn G _ _ _ (h2.Qw hd rfl (.arr b off (k+m) cap) rfl) hp2 hk')
    simp[execOp,resolve,invoke,builtin,e1,b9]
 ·have hgr:cap<k+m:=by omega
  obtain⟨cO,hk⟩:=PG hgr
  have grow:∀(base:Option Addr)(us:List Value),a.eval u=.slice base k cap->us.length=k*sz->olds.length=k*sz->Fl olds->views olds=olds->
   (Builtin.firstCells sz k (.slice base k cap)).run P w.drew=.ok us.toArray w.drew->(∀(j:Nat)(c:AV)(u:Value),olds[j]? =some c->us[j]? =some u->VR w G.R c u)->
   rS P G n D w a (.call {callee:=.builtin .append,args:= #[u,v],argTypes:= #[t,t']}) ty d K:=by
   intro base us e1 hul acT hof hov hfc vo
   have b9:=BU (ty:=ty) ht ht2 hi hz zz e9 hfc hgr (by rw[hby];exact cO) (by rw[hby];exact vi)
   have hge:k+m<=grownCap w (k+m) cap e:=grownCap_ge w (k+m) cap e
   obtain⟨zz1,zz2,zz3,zz4,_⟩:=Zs (grownCap w (k+m) cap e -(k+m))
   obtain⟨G2,h3,h4⟩:=(h.drew).Sj (t:=e) (c:=us.toArray++news.toArray++Builtin.zeroCells zv.cells (grownCap w (k+m) cap e -(k+m)))
    (cs:=olds++ds++(List.replicate (grownCap w (k+m) cap e -(k+m)) z).flatten) (d:=d) hd (.inr ⟨k+m,grownCap w (k+m) cap e,rfl,rfl⟩)
    (fun G' w' o hp=>by
      have hl1:=e9.len
      have hl2:=e9.zU
      refine⟨by simp only[Array.size_append,List.size_toArray,List.length_append,zz2];rw[Array.length_toList]at zz1;omega,fun j x y hx hy=>?_⟩
      have wH:∀(l:List AV)(q:Nat),views l=l->l[q]? =some x->dx G' w' (o j) x y:=by
       intro l q hvl hq
       rw[<-hvl,eW]at hq
       cases hz':l[q]? with
       |none=>rw[hz']at hq;cases hq
       |some x'=>rw[hz']at hq;simp at hq;rw[<-hq];exact dx.view ..
      by_cases hj1:j<olds.length
      ·rw[List.append_assoc,List.getElem?_append_left hj1]at hx
       rw[Array.append_assoc,Array.getElem?_append_left (by simp;omega)]at hy
       exact⟨hp.vr h.drew.aV ((aC.drew G w).vr h.aV (vo j x y hx (by simpa using hy))),wH _ _ hov hx⟩
      ·by_cases hj2:j<olds.length+ds.length
       ·rw[List.getElem?_append_left (by simp;omega),List.getElem?_append_right (by omega)]at hx
        rw[Array.getElem?_append_left (by simp;omega),Array.getElem?_append_right (by simp;omega)]at hy
        simp only[List.size_toArray,List.getElem?_toArray]at hy
        rw[hul,<-acT]at hy
        exact⟨hp.vr h.drew.aV ((aC.drew G w).vr h.aV (e9.oI _ x y hx hy)),wH _ _ WW.vw hx⟩
       ·rw[List.getElem?_append_right (by simp;omega)]at hx
        rw[Array.getElem?_append_right (by simp;omega)]at hy
        have ea:(us.toArray++news.toArray).size=olds.length+ds.length:=by simp;omega
        rw[ea]at hy
        rw[List.length_append]at hx
        have:=zz3 _ x y hx (by simpa using hy)
        exact⟨uW this w' G'.R,F6 this G' w' _⟩)
    (fun c hc=>by
      rcases List.mem_append.1 hc with hc|hc
      ·rcases List.mem_append.1 hc with hc|hc
       ·exact hof c hc
       ·exact e9.fl c hc
      ·exact zz4 c hc)
   intro pos after gd next Q hn
   refine a8 ?_ (hn G2 _ _ _ h3 ((aC.drew G w).trans h4) (hk _ _ (h.store.get_none h.aV) hge))
   simp[execOp,resolve,invoke,builtin,e1,b9]
  rcases VR.cj hbx with e1|⟨rfl,rfl,e1⟩
  ·rcases hold with⟨rfl,rfl⟩|⟨cs,hsb,hle,rfl⟩
   ·exact grow _ [] e1 (by simp) (by simp) Fl.nil rfl (run_firstCells_some w.drew sz 0 ⟨b,off,none⟩ 0 cap [] (by simp) (fun j v hj=>by simp at hj)) (fun j c u hc=>by simp at hc)
   ·have hat:=h.store.at hsb hle
    obtain⟨us,u1,u2,u3⟩:=hat.oI
    have hfl:Fl (views (AB.sub cs off (k*sz))):=by obtain⟨_,_,_,hf⟩:=hat;exact hf
    have hlen:(views (AB.sub cs off (k*sz))).length=k*sz:=by simp only[views,List.length_map];exact kl hle
    exact grow _ us e1 (by rw[u1,hlen]) hlen hfl (q9 _) (run_firstCells_some w.drew sz k ⟨b,off,none⟩ k cap us (by rw[u1,hlen]) u2) u3
  ·rcases hold with⟨_,rfl⟩|⟨cs,hsb,hle,rfl⟩
   ·exact grow none [] e1 (by simp) (by simp) Fl.nil rfl (by simp[Builtin.firstCells]) (fun j c u hc=>by simp at hc)
   ·have:views (AB.sub cs off (0*sz))=[]:=by simp[AB.sub,views]
    rw[this]at grow
    exact grow none [] e1 (by simp) (by simp) Fl.nil rfl (by simp[Builtin.firstCells]) (fun j c u hc=>by simp at hc)
theorem KD{t t' ty e:TypeId}{i:TypeInfo}{z:Value}{sz m:Nat}{k':IntKind}(ht:P.underlying t=some (.slice e))(ht':P.underlying t'=some (.int k'))(hi:P.info? e=some i)(hz:i.zero=some z)(hsz:i.size=sz)(alZ:0<sz){c:Int}(hc0:0<=c)(hm:c.toNat=m){base:Option Addr}{k cap:Nat}{olds:List Value}
 (hold:(Builtin.firstCells sz k (.slice base k cap)).run P w.drew=.ok olds.toArray w.drew)(cO:cap<k+m)(Gu:(k+m)*i.bytes<=room)(hb0:0<i.bytes):
 (Builtin.append_ #[t,t'] ty #[.slice base k cap,.int .i64 c]).run P w=.ok (.slice (some ⟨w.heap.size,0,none⟩) (k+m) (grownCap w (k+m) cap e))
   (w.drew.alloc (.cells (olds.toArray++Builtin.zeroCells z.cells m++Builtin.zeroCells z.cells (grownCap w (k+m) cap e -(k+m))) e)):=by
 subst hsz
 subst hm
 have h3:¬(k+c.toNat<=cap):=by omega
 have h4:¬(281474976710656<Builtin.nextslicecap (k+c.toNat) cap*i.bytes):=by have:=growslice_fits cO Gu;omega
 have h5:k+c.toNat<=(k+c.toNat)*i.bytes:=Nat.le_mul_of_pos_right _ hb0
 have Zo:=Gu
 unfold room at Zo
 have hcb:c<=140737488355328:=by omega
 have h6:¬((9223372036854775807:Int)<(k:Int)+(c.toNat:Int)):=by omega
 have h6':¬((9223372036854775807:Int)<(k:Int)+c):=by omega
 have agA:¬((9223372036854775807:Int)<(k:Int)+max c 0):=by omega
 have hw:IntKind.i64.wrap c=c:=Dw hc0 (by omega)
 have h7:¬(c<0):=by omega
 have h8:¬((281474976710656:Int)<c*(i.bytes:Int)):=by
  have h9:c.toNat*i.bytes<=(k+c.toNat)*i.bytes:=Nat.mul_le_mul_right _ (by omega)
  have h10:((c.toNat*i.bytes:Nat):Int)=c*(i.bytes:Int):=by rw[Int.natCast_mul,Int.toNat_of_nonneg hc0]
  omega
 by_cases hc1:c.toNat=0
 ·have:Builtin.zeroCells z.cells c.toNat= #[]:=by rw[hc1];simp[Builtin.zeroCells]
  have hm0:c.toNat*i.size=0:=by rw[hc1,Nat.zero_mul]
  simp[Builtin.append_,run_underlying ht,run_underlying ht',sizeOf,typeInfo,zeroValue,hi,hz,asInt,asIntOf,hw,h7,h8,h3,h4,h6,h6',agA,hm0,Question.forced,hold,newRow,grownCap,this]<;>
   (congr 2;apply Array.ext';simp[List.append_assoc])
 ·have hm0:¬(c.toNat*i.size=0):=by
   intro e
   rcases Nat.mul_eq_zero.1 e with e|e<;>omega
  simp[Builtin.append_,run_underlying ht,run_underlying ht',sizeOf,typeInfo,zeroValue,hi,hz,asInt,asIntOf,hw,h7,h8,h3,h4,h6,h6',agA,hm0,Question.forced,hold,newRow,grownCap]<;>
   (congr 2;apply Array.ext';simp[List.append_assoc])
theorem Pg(h:Inv G n D E a w){op:Op}{ty:TypeId}{sz by':Nat}{z:List AV}{x y:IX}{d:Option Nat}{K:St->Prop}(hd:bz n d=true)(hc:aq P op ty (.lR sz by' z x y)=true)(hw:jB P (.lR sz by' z x y) d E K):rS P G n D w a op ty d K:=by
 cases op<;>first|(simp[aq]at hc;done)|skip
 rename_i c
 simp only[aq]at hc
 split at hc<;>try(cases hc;done)
 rename_i u v t t' hb
 have hce:=s5 hb
 subst hce
 simp only[Bool.and_eq_true]at hc
 obtain⟨⟨⟨hu,hv⟩,ht'⟩,hc⟩:=hc
 obtain⟨k',ht2⟩:=Zv ht'
 split at hc<;>try(cases hc;done)
 rename_i e ht
 have ht:=dL ht
 simp only[Bool.and_eq_true]at hc
 obtain⟨⟨⟨⟨hs,hby⟩,oZ⟩,vi⟩,hzi⟩:=hc
 obtain⟨i,hi,zz⟩:=nj hs
 obtain⟨zv,_,⟨i1,hi1,hz,hz1⟩,Zs⟩:=xe hzi
 rw[hi]at hi1;injection hi1 with hi1;subst hi1
 have oZ:=of_decide_eq_true oZ
 have vi:=of_decide_eq_true vi
 have hby:i.bytes=by':=by
  unfold oW at hby
  rw[hi]at hby
  simpa using hby
 have hw':uS sz by' z E d K (E.x x) (xg true E y):=hw
 have hbx:=XR.aR h hu
 have hbv:=BR.aR h hv
 generalize E.x x=xv at hw' hbx
 generalize xg true E y=yv at hw' hbv
 unfold uS at hw'
 split at hw'<;>try(exact hw'.elim)
 rename_i b off k cap q
 obtain⟨hq0,hgr,hvz,hw'⟩:=hw'
 have ev:=VR.cF hbv
 generalize hm:q.toNat=m at hw' hgr
 obtain⟨zm1,zm2,zm3,zm4,zm5⟩:=Zs m
 cases hol:qh E.s sz b off k with
 |none=>rw[hol]at hw';exact hw'.elim
 |some olds=>
 rw[hol]at hw'
 obtain⟨acZ,abk,PG⟩:=hw'
 have hold:k=0/\olds=[]\/∃cs,E.s b=some (.cells cs)/\off+k*sz<=cs.length/\olds=views (AB.sub cs off (k*sz)):=by
  unfold qh at hol
  by_cases hk:k=0
  ·subst hk
   injection hol with hol;exact .inl ⟨rfl,hol.symm⟩
  ·rw[show(k==0)=false by simpa using hk]at hol
   cases hca:ki k sz off (E.s b)with
   |none=>rw[hca]at hol;cases hol
   |some q=>
    rw[hca]at hol;injection hol with hol
    obtain⟨q1,q2⟩:=q
    obtain⟨cs,e1,e2,_,e4⟩:=tc hca
    exact .inr ⟨cs,e1,e2,by rw[<-hol];exact e4⟩
 obtain⟨cO,hk⟩:=PG hgr
 obtain⟨ds,hds⟩:∃ds,ds=(List.replicate m z).flatten:=⟨_,rfl⟩
 obtain⟨news,AU⟩:∃news,news=(Builtin.zeroCells zv.cells m).toList:=⟨_,rfl⟩
 have akB:views ds=ds:=by
  rw[hds];unfold views at hvz⊢
  rw[List.map_flatten,List.map_replicate,hvz]
 rw[<-hds]at hk
 have grow:∀(base:Option Addr)(us:List Value),a.eval u=.slice base k cap->us.length=k*sz->olds.length=k*sz->Fl olds->views olds=olds->
  (Builtin.firstCells sz k (.slice base k cap)).run P w.drew=.ok us.toArray w.drew->(∀(j:Nat)(c:AV)(u:Value),olds[j]? =some c->us[j]? =some u->VR w G.R c u)->
  rS P G n D w a (.call {callee:=.builtin .append,args:= #[u,v],argTypes:= #[t,t']}) ty d K:=by
  intro base us e1 hul acT hof hov hfc vo
  have b9:=KD (ty:=ty) ht ht2 hi hz zz oZ hq0 hm hfc hgr (by rw[hby];exact cO) (by rw[hby];exact vi)
  have hge:k+m<=grownCap w (k+m) cap e:=grownCap_ge w (k+m) cap e
  obtain⟨zz1,zz2,zz3,zz4,_⟩:=Zs (grownCap w (k+m) cap e -(k+m))
  obtain⟨G2,h3,h4⟩:=(h.drew).Sj (t:=e) (c:=us.toArray++Builtin.zeroCells zv.cells m++Builtin.zeroCells zv.cells (grownCap w (k+m) cap e -(k+m)))
   (cs:=olds++ds++(List.replicate (grownCap w (k+m) cap e -(k+m)) z).flatten) (d:=d) hd (.inr ⟨k+m,grownCap w (k+m) cap e,rfl,rfl⟩)
   (fun G' w' o hp=>by
     have hl1:news.length=m*sz:=by rw[AU,zm1,acZ]
     have hl2:ds.length=m*sz:=by rw[hds,zm2,acZ]
     have hna:Builtin.zeroCells zv.cells m=news.toArray:=by rw[AU]
     rw[hna]
     refine⟨by simp only[Array.size_append,List.size_toArray,List.length_append,zz2];rw[Array.length_toList]at zz1;omega,fun j x y hx hy=>?_⟩
     have wH:∀(l:List AV)(q:Nat),views l=l->l[q]? =some x->dx G' w' (o j) x y:=by
      intro l q hvl hq
      rw[<-hvl,eW]at hq
      cases hz':l[q]? with
      |none=>rw[hz']at hq;cases hq
      |some x'=>rw[hz']at hq;simp at hq;rw[<-hq];exact dx.view ..
     by_cases hj1:j<olds.length
     ·rw[List.append_assoc,List.getElem?_append_left hj1]at hx
      rw[Array.append_assoc,Array.getElem?_append_left (by simp;omega)]at hy
      exact⟨hp.vr h.drew.aV ((aC.drew G w).vr h.aV (vo j x y hx (by simpa using hy))),wH _ _ hov hx⟩
     ·by_cases hj2:j<olds.length+ds.length
      ·rw[List.getElem?_append_left (by simp;omega),List.getElem?_append_right (by omega)]at hx
       rw[Array.getElem?_append_left (by simp;omega),Array.getElem?_append_right (by simp;omega)]at hy
       simp only[List.size_toArray,List.getElem?_toArray]at hy
       rw[hul,<-acT]at hy
       exact⟨hp.vr h.drew.aV ((aC.drew G w).vr h.aV (uW (zm3 _ x y (by rw[<-hds];exact hx) (by rw[<-AU];exact hy)) w G.R)),wH _ _ akB hx⟩
      ·rw[List.getElem?_append_right (by simp;omega)]at hx
       rw[Array.getElem?_append_right (by simp;omega)]at hy
       have ea:(us.toArray++news.toArray).size=olds.length+ds.length:=by simp;omega
       rw[ea]at hy
       rw[List.length_append]at hx
       have:=zz3 _ x y hx (by simpa using hy)
       exact⟨uW this w' G'.R,F6 this G' w' _⟩)
   (fun c hc=>by
     rcases List.mem_append.1 hc with hc|hc
     ·rcases List.mem_append.1 hc with hc|hc
      ·exact hof c hc
      ·exact zm4 c (by rw[<-hds];exact hc)
     ·exact zz4 c hc)
  intro pos after gd next Q hn
  refine a8 ?_ (hn G2 _ _ _ h3 ((aC.drew G w).trans h4) (hk _ _ (h.store.get_none h.aV) hge))
  simp[execOp,resolve,invoke,builtin,e1,ev,b9]
 rcases VR.cj hbx with e1|⟨rfl,rfl,e1⟩
 ·rcases hold with⟨rfl,rfl⟩|⟨cs,hsb,hle,rfl⟩
  ·exact grow _ [] e1 (by simp) (by simp) Fl.nil rfl (run_firstCells_some w.drew sz 0 ⟨b,off,none⟩ 0 cap [] (by simp) (fun j v hj=>by simp at hj)) (fun j c u hc=>by simp at hc)
  ·have hat:=h.store.at hsb hle
   obtain⟨us,u1,u2,u3⟩:=hat.oI
   have hfl:Fl (views (AB.sub cs off (k*sz))):=by obtain⟨_,_,_,hf⟩:=hat;exact hf
   have hlen:(views (AB.sub cs off (k*sz))).length=k*sz:=by simp only[views,List.length_map];exact kl hle
   exact grow _ us e1 (by rw[u1,hlen]) hlen hfl (q9 _) (run_firstCells_some w.drew sz k ⟨b,off,none⟩ k cap us (by rw[u1,hlen]) u2) u3
 ·rcases hold with⟨_,rfl⟩|⟨cs,hsb,hle,rfl⟩
  ·exact grow none [] e1 (by simp) (by simp) Fl.nil rfl (by simp[Builtin.firstCells]) (fun j c u hc=>by simp at hc)
  ·have:views (AB.sub cs off (0*sz))=[]:=by simp[AB.sub,views]
   rw[this]at grow
   exact grow none [] e1 (by simp) (by simp) Fl.nil rfl (by simp[Builtin.firstCells]) (fun j c u hc=>by simp at hc)
end
end Go.AB
end
section
namespace Go.AB
open Go
section
variable{P:Program}{G G':Gh}{n:Nat}{D:List Deferred}{E:St}{a:Act}{w w':World}
theorem BV{t t' ty e:TypeId}(ht:P.underlying t=some (.slice e)){sz m k cap:Nat}(hs:dm P e sz=true){R:Nat->Nat}{ds:List AV}{v:Value}{news:List Value}(h:uD P w R sz m ds v news){base:Option Addr}{w':World}
 (hst:∀ad,base=some ad->(storeCells ad (news.take (min m k*sz))).run P w=.ok () w')(WQ:base=none->w'=w):
 (Builtin.copy_ #[t,t'] ty #[.slice base k cap,v]).run P w=.ok (.int .i64 (min m k:Nat)) w':=by
 have h1:=h.lenOf w
 have h2:=h.first (min m k) (Nat.min_le_left _ _) w rfl
 cases base with
 |none=>
  have:=WQ rfl
  subst this
  simp[Builtin.copy_,run_underlying ht,run_sizeOf hs,h1,h2,goInt]
 |some ad=>
  have h3:=hst ad rfl
  simp[Builtin.copy_,run_underlying ht,run_sizeOf hs,h1,h2,h3,goInt]
theorem Uu(h:Inv G n D E a w){op:Op}{ty:TypeId}{sz:Nat}{x y:IX}{d:Option Nat}{K:St->Prop}(hd:bz n d=true)(hc:aq P op ty (.ik sz x y)=true)(hw:jB P (.ik sz x y) d E K):rS P G n D w a op ty d K:=by
 cases op<;>first|(simp[aq]at hc;done)|skip
 rename_i c
 simp only[aq]at hc
 split at hc<;>try(cases hc;done)
 rename_i u v t t' hb
 have hce:=s5 hb
 subst hce
 simp only[Bool.and_eq_true]at hc
 obtain⟨⟨hu,hv⟩,hc⟩:=hc
 split at hc<;>try(cases hc;done)
 rename_i e ht
 have ht:=dL ht
 have hw':zo sz E d K (E.x x) (uL E.s sz (E.x y)):=hw
 have hbx:=XR.aR h hu
 generalize E.x x=xv at hw' hbx
 cases hsv:uL E.s sz (E.x y)with
 |none=>rw[hsv]at hw';unfold zo at hw';split at hw'<;>first|(rename_i hh;cases hh;done)|exact hw'.elim
 |some md=>
 obtain⟨m,ds⟩:=md
 rw[hsv]at hw'
 obtain⟨news,e9⟩:=IP (P:=P) h hv hsv
 unfold zo at hw'
 split at hw'<;>try(exact hw'.elim)
 rename_i b off k cap _ _ he0
 injection he0 with he0;injection he0 with e1 e2;subst e1;subst e2
 rcases hw' with⟨Jr,hk⟩|⟨cO,hk⟩
 ·intro pos after gd next Q hn
  refine a8 (w':=w) (v:=.int .i64 0) ?_ (hn G _ _ _ (h.Qw hd rfl (.int _ _) rfl) (aC.refl G w) hk)
  rcases VR.cj hbx with e1|⟨rfl,rfl,e1⟩
  ·have b9:=BV (ty:=ty) (t':=t') (w:=w) ht hc e9 (base:=some ⟨b,off,none⟩) (k:=k) (cap:=cap) (w':=w) (fun ad _=>by rw[Jr];simp;rfl) (fun hh=>by cases hh)
   rw[Jr]at b9
   simp[execOp,resolve,invoke,builtin,e1,b9]
  ·have b9:=BV (ty:=ty) (t':=t') (w:=w) ht hc e9 (base:=none) (k:=0) (cap:=0) (w':=w) (fun ad hh=>by cases hh) (fun _=>rfl)
   simp at b9
   simp[execOp,resolve,invoke,builtin,e1,b9]
 ·obtain⟨cs,hsb,dX⟩:=Dg cO
  rw[hsb]at hk
  have hk':K ({E with s:=E.s.set b (.cells (setAt cs off (ds.take (min m k*sz))))}.put d (.int .i64 (min m k:Nat))):=hk
  obtain⟨_,_,c,et,hcb,hcr,hcf⟩:=h.store b _ hsb
  have agO:min m k*sz<=m*sz:=Nat.mul_le_mul_right _ (Nat.min_le_left _ _)
  have alV:min m k*sz<=k*sz:=Nat.mul_le_mul_right _ (Nat.min_le_right _ _)
  have hl1:(ds.take (min m k*sz)).length=min m k*sz:=by simp[e9.zU,agO]
  have hl2:(news.take (min m k*sz)).length=min m k*sz:=by simp[e9.len,agO]
  rcases VR.cj hbx with e1|⟨rfl,rfl,e1⟩
  ·obtain⟨h2,hp2⟩:=h.Ab (off:=off) (ds:=ds.take (min m k*sz)) (news:=news.take (min m k*sz)) hsb hcb (by rw[hl1,hl2]) (by rw[hl1];omega) (fun c hc=>e9.fl c (List.mem_of_mem_take hc))
    (by
      have:=e9.vw
      unfold views at this⊢
      rw[List.map_take,this]) (fun j x y hx hy=>by
      rw[List.getElem?_take]at hx hy
      split at hx
      ·rename_i hj;rw[if_pos hj]at hy;exact e9.oI j x y hx hy
      ·cases hx)
   have WI:off+(news.take (min m k*sz)).length<=c.size:=by rw[hl2,hcr.1];omega
   have hst:=eF (P:=P) b off et (0,0) (news.take (min m k*sz)) 0 c w hcb (fun j _ hj=>by simp at hj) (by simpa using WI) (fun u hu=>e9.one u (List.mem_of_mem_take hu))
   have b9:=BV (ty:=ty) (t':=t') (w:=w) ht hc e9 (base:=some ⟨b,off,none⟩) (k:=k) (cap:=cap) (w':=w.setRow b (laid c off (news.take (min m k*sz)))) (fun ad had=>by injection had with had;subst had;simpa[laid]using hst) (fun hh=>by cases hh)
   intro pos after gd next Q hn
   refine a8 ?_ (hn G _ _ _ (h2.Qw hd rfl (.int _ _) rfl) hp2 hk')
   simp[execOp,resolve,invoke,builtin,e1,b9]
  ·have h0:min m 0=0:=Nat.min_zero m
   rw[h0,Nat.zero_mul,List.take_zero,Dk,qx hsb]at hk'
   have b9:=BV (ty:=ty) (t':=t') (w:=w) ht hc e9 (base:=none) (k:=0) (cap:=0) (w':=w) (fun ad hh=>by cases hh) (fun _=>rfl)
   intro pos after gd next Q hn
   refine a8 (w':=w) ?_ (hn G _ _ _ (h.Qw hd rfl (.int .i64 (0:Nat)) rfl) (aC.refl G w) hk')
   simp at b9
   simp[execOp,resolve,invoke,builtin,e1,b9]
theorem RI(h:Inv G n D E a w){op:Op}{ty:TypeId}{z:List AV}{x:IX}{d:Option Nat}{K:St->Prop}(hd:bz n d=true)(hc:aq P op ty (.mS z x)=true)(hw:jB P (.mS z x) d E K):rS P G n D w a op ty d K:=by
 cases op<;>first|(simp[aq]at hc;done)|skip
 rename_i c
 simp only[aq]at hc
 split at hc<;>try(cases hc;done)
 rename_i u us t ts hb
 have hce:=s5 hb
 subst hce
 simp only[Bool.and_eq_true]at hc
 obtain⟨hu,hc⟩:=hc
 split at hc<;>try(cases hc;done)
 rename_i e ht
 have ht:=dL ht
 have hw':xn z E d K (E.x x):=hw
 have hbx:=XR.aR h hu
 generalize E.x x=xv at hw' hbx
 unfold xn at hw'
 split at hw'<;>try(exact hw'.elim)
 rename_i b off k cap
 obtain⟨v,hv1,_,hv2⟩:=xe hc
 obtain⟨z1,z2,z3',z4,z5⟩:=hv2 k
 have z3:∀(j:Nat)(x:AV)(y:Value),(List.replicate k z).flatten[j]? =some x->(Builtin.zeroCells v.cells k).toList[j]? =some y->VR w G.R x y:=fun j x y hx hy=>uW (z3' j x y hx hy) w G.R
 rcases hw' with⟨hk0,hk⟩|⟨cO,hvw,hk⟩
 ·subst hk0
  intro pos after gd next Q hn
  refine a8 (w':=w) (v:=.tuple #[]) ?_ (hn G _ _ _ (h.adF hd) (aC.refl G w) hk)
  rcases VR.cj hbx with e1|⟨_,rfl,e1⟩<;>simp[execOp,resolve,invoke,builtin,e1,Builtin.clear_,run_underlying ht]
 ·obtain⟨cs,hsb,dX⟩:=Dg cO
  rw[hsb]at hk
  have hk':K ({E with s:=E.s.set b (.cells (setAt cs off (List.replicate k z).flatten))}.put d (.gK [])):=hk
  obtain⟨_,_,c,et,hcb,hcr,hcf⟩:=h.store b _ hsb
  by_cases hk0:k=0
  ·subst hk0
   simp only[List.replicate_zero,List.flatten_nil,Dk,qx hsb]at hk'
   intro pos after gd next Q hn
   refine a8 (w':=w) (v:=.tuple #[]) ?_ (hn G _ _ _ (h.adF hd) (aC.refl G w) hk')
   rcases VR.cj hbx with e1|⟨_,rfl,e1⟩<;>simp[execOp,resolve,invoke,builtin,e1,Builtin.clear_,run_underlying ht]
  ·rcases VR.cj hbx with e1|⟨h0,_,_⟩
   ·obtain⟨h2,hp2⟩:=h.Ab (off:=off) (ds:=(List.replicate k z).flatten) (news:=(Builtin.zeroCells v.cells k).toList) hsb hcb (by rw[z1,z2]) (by rw[z2];exact dX) z4
     (by
       unfold views
       rw[List.map_flatten,List.map_replicate]
       unfold views at hvw
       rw[hvw]) z3
    have hst:=eF (P:=P) b off et (0,0) (Builtin.zeroCells v.cells k).toList 0 c w hcb (fun j _ hj=>by simp at hj) (by rw[z1,hcr.1];simpa using dX) z5
    have WX:(storeCells ⟨b,off,none⟩ (Builtin.zeroCells v.cells k).toList).run P w=.ok () (w.setRow b (laid c off (Builtin.zeroCells v.cells k).toList)):=by simpa[laid]using hst
    intro pos after gd next Q hn
    refine a8 (v:=.tuple #[]) ?_ (hn G _ _ _ (h2.adF hd) hp2 hk')
    have b9:(Builtin.clear_ (t::ts).toArray ty (Array.map a.eval (u::us).toArray)).run P w=.ok (.tuple #[]) (w.setRow b (laid c off (Builtin.zeroCells v.cells k).toList)):=by
     obtain⟨k',rfl⟩:∃k',k=k'+1:=⟨k -1,by omega⟩
     simp[Builtin.clear_,run_underlying ht,e1,hv1,WX]
    simp[execOp,resolve,invoke,builtin]at b9⊢;simp[b9]
   ·exact absurd h0 hk0
end
end Go.AB
end
