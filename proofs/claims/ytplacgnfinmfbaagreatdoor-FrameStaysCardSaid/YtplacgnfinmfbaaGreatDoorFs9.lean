/- A part. -/
import Derived.Test.YtplacgnfinmfbaaGreatDoorFs8
import Derived.ProofKit
set_option linter.unusedSimpArgs false
set_option linter.unusedVariables false
section
namespace Go.AB
open Go
section
variable{P:Program}{G G':Gh}{n:Nat}{D:List Deferred}{E E':St}{a:Act}{w w':World}{T:List Nat}
def uE(a:AV):Prop:=bw a=true/\∀t,¬bD a t
theorem LN{f:Nat}{s:ae}{C C':AV->ae->Prop}(hc:∀a s',uE a->C a s'->C' a s'):∀{o:Option (List AV)},zH P f s C o->zH P f s C' o
 |some _,h=>FN.mono (P:=P) h fun rs s'⟨h1,h2⟩=>⟨h1,hc _ _ ⟨oQ h1,vd h1⟩ h2⟩
 |none,h=>h
theorem Jy{s:ae}{C C':AV->ae->Prop}(hc:∀a s',uE a->C a s'->C' a s'){o:Option (List AV)}{x:AV}(h:uQ P o s C x):uQ P o s C' x:=by
 unfold uQ at h⊢
 split at h
 ·unfold Jx at h⊢
  split at h
  ·exact⟨h.1,FN.mono (P:=P) h.2 fun rs s'⟨h1,h2⟩=>⟨h1,hc _ _ ⟨oQ h1,vd h1⟩ h2⟩⟩
  ·exact h
 ·exact h
theorem Hc(b o l c:Nat):uE (.arr b o l c):=⟨rfl,fun _ h=>h⟩
theorem He(b o:Nat):uE (.ref b o):=⟨rfl,fun _ h=>h⟩
theorem agb(b:Nat):uE (.mp b):=⟨rfl,fun _ h=>h⟩
theorem Qf(l:List AV):uE (.iP l):=⟨rfl,fun _ h=>h⟩
theorem ya{o:rY}{C C':AV->ae->Prop}(hc:∀a s',uE a->C a s'->C' a s')(h:vB P o E C):vB P o E C':=by
 cases o<;>first|(exact h.elim)|skip
 case call f args=>exact LN hc h
 case gw x args=>exact Jy hc h
 case mC z=>exact fun b hb=>hc _ _ (He b 0) (h b hb)
 case Bd m x=>exact⟨h.1,h.2.1,fun b hb=>hc _ _ (He b 0) (h.2.2 b hb)⟩
 case kP sz by' z l c=>
  have h:sH by' z E.s C (xg true E l) (xg true E c):=h
  show sH by' z E.s C' (xg true E l) (xg true E c)
  unfold sH at h⊢
  grind [Hc]
 case store m p v=>
  have h:oB m E.s C (E.x v) (E.x p):=h
  show oB m E.s C' (E.x v) (E.x p)
  unfold oB at h⊢
  split at h
  ·refine⟨h.1,h.2.1,h.2.2.1,?_⟩
   have h4:=h.2.2.2
   unfold Jz at h4⊢
   grind [Qf]
  ·exact h
 case mh x=>
  have h:nC E.s C (E.x x):=h
  show nC E.s C' (E.x x)
  unfold nC at h⊢
  split at h
  ·unfold uR at h⊢
   split at h
   ·unfold j9 at h⊢
    split at h
    ·exact hc _ _ ⟨rfl,fun _ h=>h⟩ h
    ·exact hc _ _ ⟨rfl,fun _ h=>h⟩ h
    ·exact h
   ·exact h
  ·exact h
theorem B9{o:rY}{C:AV->ae->Prop}(hx:∀x∈eK o,E.x x=E'.x x)(hs:E.s=E'.s)(h:vB P o E C):vB P o E' C:=by
 have hg:∀x∈eK o,xg true E x=xg true E' x:=fun x h=>by grind [xg]
 cases o<;>first|(exact h.elim)|skip
 case call f args=>
  show zH P f E'.s C (cq (xg true E') args)
  rw[<-hs,<-gS args hg];exact h
 case gw x args=>
  show uQ P (cq (xg true E') args) E'.s C (xg true E' x)
  rw[<-hs,<-gS args fun y hy=>hg y (List.mem_cons_of_mem _ hy),<-hg x List.mem_cons_self];exact h
 case mC z=>grind [vB]
 case Bd m x=>rw[vB,<-hs,<-hg x List.mem_cons_self];exact h
 case kP sz by' z l c=>grind [vB,eK]
 case store m p v=>grind [vB,eK]
 case mh x=>rw[vB,<-hs,<-hx x List.mem_cons_self];exact h
theorem Ng{a:AV}(h:KR a=true)(hv:dp a=true):view a=a:=by
 cases a<;>first|rfl|skip
 ·rename_i o z m cs
  cases o
  ·rfl
  ·cases h
 ·cases hv
 ·cases hv
 ·cases h
theorem lf.put(h:lf E E')(d:Option Nat)(v:AV):lf (E.put d v) (E'.put d v):=by
 cases d with
 |none=>exact h
 |some d=>exact⟨fun i=>by show look ((d,v)::E.e) i=look ((d,v)::E'.e) i;rw[aX,aX,h.e],h.lp,h.s⟩
theorem lf.Lu(h:lf E E')(s:ae):lf {E with s:=s} {E' with s:=s}:=⟨h.e,h.lp,rfl⟩
theorem O9{x:IX}(h:view (E.x x)=E.x x):lf (E.drain x) E:=by
 cases x with
 |c a=>exact lf.refl _
 |t i=>
  refine⟨fun j=>?_,fun _=>Iff.rfl,rfl⟩
  show look ((i,view (look E.e i))::E.e) j=_
  rw[aX]
  by_cases e:i=j
  ·subst e;simp;exact h
  ·simp[e]
theorem Ul{o:au}{K:St->Prop}(hK:∀τ U',lf τ U'->K τ->K U')(h:T4 P o E K):Lz P o E K:=by
 obtain⟨d,op,g⟩:=o
 cases g with
 |some _=>exact h.elim
 |none=>
 replace h:=h.2
 cases op<;>first|(exact h.elim)|skip
 case call f args=>
  show sJ P f E d K (cq (xg true E) args)
  have h:zH P f E.s (T0 E d K) (cq (xg true E) args):=h
  cases hh:cq (xg true E) args<;>rw[hh]at h<;>exact h
 case gw x args=>
  show xb P E (cq (xg true E) args) d K (xg true E x)
  have h:uQ P (cq (xg true E) args) E.s (T0 E d K) (xg true E x):=h
  cases hh:cq (xg true E) args<;>cases hx:xg true E x<;>rw[hh,hx]at h<;>exact h
 case mC z=>exact h
 case Bd m x=>exact h
 case kP sz by' z l c=>
  show ze by' z E d K (xg true E l) (xg true E c)
  have h:sH by' z E.s (T0 E d K) (xg true E l) (xg true E c):=h
  cases hl:xg true E l<;>cases hc:xg true E c<;>rw[hl,hc]at h<;>exact h
 case store m p v=>
  show I3 m E p v d K (E.x v)
  have h:oB m E.s (T0 E d K) (E.x v) (E.x p):=h
  unfold oB at h
  split at h
  ·rename_i b off hp
   obtain⟨h1,h2,h3,h4⟩:=h
   refine⟨h1,h3,?_⟩
   have hd:=O9 (Ng h2 h1)
   rw[hp]
   show Tr d K (TV (E.drain v) b off (bu (E.x v)) ((E.drain v).s b))
   rw[hd.s]
   unfold Jz at h4
   split at h4
   ·rename_i gN ho
    rw[ho]
    show Tr d K (wrS (E.drain v) b (gb off (bu (E.x v)) gN))
    unfold gb
    rw[decide_eq_true h4.1]
    refine hK _ _ ?_ h4.2
    have e:lf {E with s:=E.s.set b (.cells (setAt gN off (bu (E.x v))))} {E.drain v with s:=(E.drain v).s.set b (.cells (setAt gN off (bu (E.x v))))}:=by rw[hd.s];exact hd.symm.Lu _
    exact e.put d _
   grind
  grind
 case mh x=>
  show pw E d K (E.x x)
  have h:nC E.s (T0 E d K) (E.x x):=h
  unfold nC at h
  split at h
  ·rename_i b off hx
   rw[hx]
   unfold pw
   simp only
   unfold uR at h
   split at h
   ·rename_i cs he
    first|exact h|(rw[he];exact h)
   grind
  grind
theorem afh{o:au}{g:Bool}(h:mr o E=true)(s:ae):pv o.op (xg g {E with s:=s}) {E with s:=s}=pv o.op (xg g E) E:=by
 have hf:xg g {E with s:=s}=xg g E:=by funext x;cases x<;>rfl
 rw[hf]
 obtain⟨d,op,gg⟩:=o
 cases op<;>first|rfl|skip
 case oM tr x=>cases tr<;>rfl
 case slice sz x lo hi mx=>cases mx<;>rfl
 case load m multi x=>
  have h:lq (E.x x)=true:=h
  have hn:lq (xg g E x)=true:=by
   unfold xg xT
   split
   ·rename_i b a hb
    rw[hb]at h
    cases hc:((b==g)||b)&&inner a
    ·rfl
    ·exact h
   ·exact h
  show mi multi (rd {E with s:=s} (xg g E x) m)=mi multi (rd E (xg g E x) m)
  cases he:xg g E x<;>first|rfl|(rw[he]at hn;cases hn)
 case kN z m x=>cases h
 case len c x=>
  have h:(!Nat.beq c 2)=true:=h
  show Bu s c (xg g E x)=Bu E.s c (xg g E x)
  match c,h with
  |0,_=>cases xg g E x<;>rfl
  |1,_=>cases xg g E x<;>rfl
  |c+3,_=>cases xg g E x<;>rfl
 case T6 ne x y=>
  cases y with
  |t i=>rfl
  |c a=>
   cases a<;>first|rfl|skip
   rename_i o z m cs
   cases o<;>cases m<;>cases cs<;>rfl
theorem aiN{o:au}(h:mr o E=true)(s:ae):qv o {E with s:=s}=qv o E:=by
 unfold qv
 split
 ·exact afh h s
 ·rename_i t want _
  show K5 o.op want {E with s:=s} (look E.e t)=K5 o.op want E (look E.e t)
  unfold K5
  grind [WS,afh]
theorem afE{o:au}(h:mr o E=true)(s:ae)(f:IX->AV):qe f s o.op=qe f E.s o.op:=by
 obtain⟨d,op,gg⟩:=o
 cases op<;>first|rfl|(cases h;done)
theorem afC{o:au}(h:mr o E=true)(s:ae):EE o {E with s:=s}=EE o E:=by
 have hf:∀g,xg g {E with s:=s}=xg g E:=fun g=>by funext x;cases x<;>rfl
 unfold EE
 split
 ·grind [afE]
 ·rename_i t want _
  show Ot o.op want {E with s:=s} (look E.e t)=Ot o.op want E (look E.e t)
  unfold Ot
  grind [Qg,qe,xg,afE]
theorem rG(d:Option Nat)(s:ae):bn {E with s:=s} d=bn E d:=by cases d<;>rfl
theorem Y2.Lu{o:au}{v:AV}(hy:Y2 P E o v)(h:mr o E=true)(s:ae):Y2 P {E with s:=s} o v:=by
 cases hy with
 |gN _ _ h0 hf hv hy=>
  refine .gN o v h0 (by grind [rG]) hv ?_
  cases hy with
  |pure _ _ hq=>exact .pure o v (by grind [aiN])
  |oM d x hi=>exact .oM (E:={E with s:=s}) d x hi
  |call=>cases h
  |JB=>cases h
  |gw=>cases h
  |Ci=>cases h
  |XB _ _ hq=>exact .XB o v (by grind [afC])
 |sto m c x gN h0 h1 h2 h3=>exact .sto (E:={E with s:=s}) m c x gN h0 h1 h2 h3
 |YL d z h0 h1=>exact .YL d z h0 h1
 |app d sz bytes x y _ h0 h1=>exact .app d sz bytes x y v h0 h1
 |ZZ d off i x cs o s' m ds h0 h1 h2 h3 h4=>exact .ZZ d off i x cs o s' m ds h0 h1 h2 h3 h4
def behind(E:St)(d:Option Nat)(a:AV)(s:ae):St:={E with s:=s}.put d a
theorem mj(E:St)(d:Option Nat)(a:AV)(i:Nat):look (E.put d a).e i=if d=some i then a else look E.e i:=by
 cases d with
 |none=>simp[St.put]
 |some d=>
  show look ((d,a)::E.e) i=_
  grind [aX]
theorem GQ(E:St)(d:Option Nat)(a:AV):(E.put d a).s=E.s/\(E.put d a).lp=E.lp:=by cases d<;>exact⟨rfl,rfl⟩
theorem Qs(E:St)(d:Option Nat)(a:AV)(s:ae):(behind E d a s).s=s:=(GQ _ d a).1
theorem ue{d:Option Nat}{l:List Nat}(h:gV d l=true){i:Nat}(hi:i∈l):d≠some i:=fun e=>by grind [gV]
theorem Qn{y x:au}(h:YM y x=true):A2 y x=true/\gV (qF y) (cm x)=true/\gV x.dst (cm y)=true/\∀i,qF y=some i->x.dst≠some i:=by
 unfold YM at h
 grind
theorem Nj{y:au}{d:Option Nat}{v:AV}(hd:gV d (cm y)=true)(hf:bn E d=true)(hv:bw v=true):Jo y E (E.put d v):=by
 have key:∀i,i∈cm y->look E.e i=look (E.put d v).e i:=fun i hi=>by rw[mj,if_neg (ue hd hi)]
 refine⟨fun x hx=>?_,fun t want hg=>key t (List.mem_append_left _ (by rw[hg];exact List.mem_cons_self)),(GQ E d v).1.symm,fun x _ g m=>?_⟩
 ·cases x with
  |c a=>rfl
  |t i=>exact key i (List.mem_append_right _ (gU hx))
 ·cases he:xg g E x<;>try rfl
  ·rename_i b off
   show su m off (E.s b)=su m off ((E.put d v).s b)
   grind [GQ]
  ·rename_i c off
   show lr m off (look E.e c)=lr m off (look (E.put d v).e c)
   rw[mj]
   by_cases e:d=some c
   ·rw[if_pos e,jz hv]
    rw[e]at hf
    exact jz hf m off
   grind
theorem PZ{y:au}{d:Option Nat}{v:AV}{s:ae}(hd:gV d (cm y)=true):mr y (behind E d v s)=mr y E:=by
 obtain⟨dd,op,g⟩:=y
 cases op<;>first|rfl|skip
 rename_i m mu x
 show lq ((behind E d v s).x x)=lq (E.x x)
 cases x with
 |c a=>rfl
 |t i=>
  show lq (look (behind E d v s).e i)=lq (look E.e i)
  unfold behind
  rw[mj,if_neg (ue hd (List.mem_append_right _ (gU (List.mem_cons_self))))]
theorem Y2.behind{y:au}{v av:AV}{d:Option Nat}{s:ae}(hy:Y2 P E y v)(h:mr y E=true)(hd:gV d (cm y)=true)(hf:bn E d=true)(hv:uE av)(hne:∀i,qF y=some i->d≠some i):Y2 P (behind E d av s) y v:=by
 have h1:Y2 P {E with s:=s} y v:=hy.Lu h s
 unfold AB.behind
 refine h1.LJ (Nj hd (by grind [rG]) hv.1) (fun i hi=>?_) (fun i hi hf=>?_)
 ·rw[mj,if_neg (hne i (uW hi))]
 grind [GQ]
def oZ(s s':ae):Prop:=∀b m off cs,su m off (s b)=some cs->su m off (s' b)=some cs
theorem Y2.WU{d:Option Nat}{m:Nat}{mu:Bool}{x:IX}{v:AV}{s:ae}(hy:Y2 P E ⟨d,.load m mu x,none⟩ v)(hs:oZ E.s s):Y2 P {E with s:=s} ⟨d,.load m mu x,none⟩ v:=by
 have hx:xg true {E with s:=s} x=xg true E x:=by cases x<;>rfl
 have key:qv ⟨d,.load m mu x,none⟩ E≠.no->qv ⟨d,.load m mu x,none⟩ {E with s:=s}=qv ⟨d,.load m mu x,none⟩ E:=by
  show mi mu (rd E (xg true E x) m)≠.no->mi mu (rd {E with s:=s} (xg true {E with s:=s} x) m)=mi mu (rd E (xg true E x) m)
  rw[hx]
  intro hn
  cases he:xg true E x<;>try rfl
  rename_i b off
  rw[he]at hn
  have hn:mi mu (su m off (E.s b))≠.no:=hn
  show mi mu (su m off (s b))=mi mu (su m off (E.s b))
  cases hb:su m off (E.s b)with
  |none=>rw[hb]at hn;exact absurd rfl hn
  |some cs=>rw[hs b m off cs hb]
 cases hy with
 |gN _ _ h0 hf hv hy=>
  refine .gN _ v h0 (by grind [rG]) hv ?_
  cases hy with
  |pure _ _ hq=>
   refine .pure _ v ?_
   grind
  |XB _ _ hq=>rcases hq with h|⟨c,h,_⟩<;>exact nomatch h
theorem GB{y x:au}(h:Ig y x=true):(∃d m mu p,y=⟨d,.load m mu p,none⟩)/\((∃d sz by' z l c g,x=⟨d,.kP sz by' z l c,g⟩)\/∃d p g,x=⟨d,.mh p,g⟩):=by
 unfold Ig at h
 grind
theorem Y2.Um{y x:au}{v av:AV}{d:Option Nat}{s:ae}(hy:Y2 P E y v)(hl:Ig y x=true)(hs:oZ E.s s)(hd:gV d (cm y)=true)(hf:bn E d=true)(hv:uE av)(hne:∀i,qF y=some i->d≠some i):Y2 P (AB.behind E d av s) y v:=by
 have h1:Y2 P {E with s:=s} y v:=by
  obtain⟨⟨d,m,mu,p,rfl⟩,_⟩:=GB hl
  exact hy.WU hs
 unfold AB.behind
 refine h1.LJ (Nj hd (by grind [rG]) hv.1) (fun i hi=>?_) (fun i hi hf=>?_)
 ·rw[mj,if_neg (hne i (uW hi))]
 grind [GQ]
theorem oZ.grow{s:ae}{b:Nat}(h:s b=none)(o:SO):oZ s (s.set b o):=by
 intro b' m off cs hr
 have:b'≠b:=fun e=>by rw[e,h]at hr;cases hr
 grind [ae.set]
theorem oZ.take{s:ae}{b off:Nat}{cs ds:List AV}(h:s b=some (.cells cs))(hv:views ds=views cs):oZ s (s.set b (.cells ds)):=by
 intro b' m o zs hr
 by_cases e:b'=b
 ·subst e
  rw[h]at hr
  have hl:ds.length=cs.length:=by have:=congrArg List.length hv;simpa[views]using this
  have hs:views (sub ds o m)=views (sub cs o m):=by
   have:=congrArg (fun l=>(l.drop o).take m) hv
   simpa[views,sub,List.map_take,List.map_drop]using this
  have hr:iq m o cs=some zs:=hr
  have e2:(s.set b' (.cells ds)) b'=some (.cells ds):=by simp[ae.set]
  rw[e2]
  show iq m o ds=some zs
  grind [iq]
 grind [ae.set]
theorem OW{y x:au}{C C':AV->ae->Prop}(hl:Ig y x=true)(hc:∀a s',uE a->oZ E.s s'->C a s'->C' a s')(h:vB P x.op E C):vB P x.op E C':=by
 rcases(GB hl).2 with⟨d,sz,by',z,l,c,g,rfl⟩|⟨d,p,g,rfl⟩
 ·have h:sH by' z E.s C (xg true E l) (xg true E c):=h
  show sH by' z E.s C' (xg true E l) (xg true E c)
  unfold sH at h⊢
  grind [Hc,oZ.grow]
 ·have h:nC E.s C (E.x p):=h
  show nC E.s C' (E.x p)
  unfold nC at h⊢
  split at h
  ·rename_i b off hp
   unfold uR at h⊢
   split at h
   ·rename_i cs hcs
    have hvw:∀a,cs[off]? =some a->views (setAt cs off [view a])=views cs:=fun a ha=>by
     have hlt:off<cs.length:=(List.getElem?_eq_some_iff.1 ha).1
     have he:cs[off]=a:=(List.getElem?_eq_some_iff.1 ha).2
     have:cs=cs.take off++[a]++cs.drop (off+1):=by rw[<-he];simp
     unfold setAt
     conv=>rhs;rw[this]
     have hvv:∀z:AV,view (view z)=view z:=fun z=>by cases z<;>rfl
     simp[views,hvv]
    unfold j9 at h⊢
    split at h
    ·rename_i o sz n ds he
     exact hc _ _ ⟨rfl,fun _ h=>h⟩ (oZ.take (off:=off) hcs (hvw _ he)) h
    ·rename_i t n ds he
     exact hc _ _ ⟨rfl,fun _ h=>h⟩ (oZ.take (off:=off) hcs (hvw _ he)) h
    ·exact h
   ·exact h
  ·exact h
theorem x6{y:au}{v av:AV}{d:Option Nat}{s:ae}(hd:gV d (cm y)=true)(hne:∀i,qF y=some i->d≠some i):lf (bZ (behind E d av s) y v) (AB.behind (bZ E y v) d av s):=by
 refine⟨fun i=>?_,fun x=>?_,?_⟩
 ·rw[dE]
  unfold AB.behind
  rw[mj,mj]
  show _=if d=some i then av else look (bZ E y v).e i
  rw[dE]
  by_cases h1:qF y=some i
  ·grind
  ·rw[if_neg h1,if_neg h1]
   by_cases h2:d=some i
   ·rw[if_pos h2,if_pos h2]
    grind [F3,ue,sO]
   grind
 ·grind [my,AB.behind,GQ,bZ]
 grind [oW,Qs]
def bE(P:Program)(T:List Nat):List Item->(St->Prop)->St->Prop
 |[],K,E=>∃τ,lf τ E/\K τ
 |(k,_,o)::r,K,E=>if 3<=k then∃τ,lf τ E/\Lz P o τ (fun ρ=>gK T ρ.e=true/\FX P T r ρ K)else if 2<=k then bn E o.dst=true/\o.g=none/\vB P o.op E (fun a s=>bE P T r K (behind E o.dst a s))
  else∃v,Y2 P E o v/\Ai T o v/\(k=1->mr o E=true)/\bE P T r K (bZ E o v)
theorem Cb{K:St->Prop}:∀(l:List Item)(E:St),FX P T l E K->bE P T l K E
 |[],E,h=>⟨E,lf.refl _,h⟩
 |(0,_,o)::r,E,h=>by
  obtain⟨v,h1,h2,h3⟩:=IH (show q2 P o E (fun τ=>gK T τ.e=true/\FX P T r τ K) from h)
  unfold bE
  rw[if_neg (by decide),if_neg (by decide)]
  exact⟨v,h1,Aj fun i c hc=>nZ h2 i c hc,fun e=>(by cases e),Cb r _ h3⟩
 |(1,_,o)::r,E,h=>by
  obtain⟨h0,h⟩:=h
  obtain⟨v,h1,h2,h3⟩:=IH (show q2 P o E (fun τ=>gK T τ.e=true/\FX P T r τ K) from h)
  unfold bE
  rw[if_neg (by decide),if_neg (by decide)]
  exact⟨v,h1,Aj fun i c hc=>nZ h2 i c hc,fun _=>h0,Cb r _ h3⟩
 |(k+3,_,o)::r,E,h=>by
  have h:Lz P o E (fun τ=>gK T τ.e=true/\FX P T r τ K):=h
  unfold bE
  rw[if_pos (by omega)]
  grind [lf.refl]
 |(2,_,o)::r,E,h=>by
  have h:T4 P o E (fun τ=>gK T τ.e=true/\FX P T r τ K):=h
  unfold bE
  rw[if_neg (by decide),if_pos (by decide)]
  unfold T4 at h
  split at h
  ·rename_i hg
   exact⟨h.1,hg,ya (fun a s _ hk=>Cb r _ hk.2) h.2⟩
  grind
theorem PY{o:au}(h:lf E E'):mr o E=mr o E':=by
 obtain⟨d,op,g⟩:=o
 cases op<;>first|rfl|skip
 rename_i m mu x
 show lq (E.x x)=lq (E'.x x)
 cases x with
 |c a=>rfl
 |t i=>show lq (look E.e i)=lq (look E'.e i);rw[h.e]
theorem zF{K:St->Prop}:∀(l:List Item){E E':St},lf E E'->bE P T l K E->bE P T l K E'
 |[],_,_,h,⟨τ,h1,h2⟩=>⟨τ,h1.trans h,h2⟩
 |(k,i,o)::r,E,E',h,hb=>by
  unfold bE at hb⊢
  by_cases hk3:3<=k
  ·rw[if_pos hk3]at hb⊢
   obtain⟨τ,h1,h2⟩:=hb
   exact⟨τ,h1.trans h,h2⟩
  rw[if_neg hk3]at hb⊢
  by_cases hk:2<=k
  ·rw[if_pos hk]at hb⊢
   refine⟨by rw[<-h.free];exact hb.1,hb.2.1,?_⟩
   refine B9 (E:=E) (fun x _=>by cases x with|c a=>rfl|t i=>exact h.e i) h.s (ya (fun a s _ hh=>?_) hb.2.2)
   exact zF r ((h.Lu s).put o.dst a) hh
  ·rw[if_neg hk]at hb⊢
   obtain⟨v,h1,h2,h3,h4⟩:=hb
   exact⟨v,h1.eqv h,h2,fun e=>by grind [PY],zF r (h.bZ o v) h4⟩
theorem Ba{o y:au}{v:AV}(hn:gV (qF y) (cm o)=true)(hdr:A2 y o=true):mr o (bZ E y v)=mr o E:=by
 obtain⟨d,op,g⟩:=o
 cases op<;>first|rfl|skip
 rename_i m mu x
 show lq ((bZ E y v).x x)=lq (E.x x)
 cases x with
 |c a=>rfl
 |t i=>
  have hi:i∈cm ⟨d,.load m mu (.t i),g⟩:=List.mem_append_right _ (gU List.mem_cons_self)
  show lq (look (bZ E y v).e i)=lq (look E.e i)
  rw[dE,if_neg (ue hn hi),F3]
  have:=List.all_eq_true.1 hdr i hi
  grind
theorem Ye{K:St->Prop}{kx ix:Nat}{x:au}(hkx:¬2<=kx)(hTx:Vc T x):∀(pre:List Item)(post:List Item)(E:St),wT T E->(∀y∈pre,¬2<=y.1/\W7 y.2.2 x=true/\Vc T y.2.2)->bE P T (pre++(kx,ix,x)::post) K E->
 ∃v,Y2 P E x v/\Ai T x v/\(kx=1->mr x E=true)/\bE P T (pre++post) K (bZ E x v)
 |[],post,E,_,_,h=>by
  have h:bE P T ((kx,ix,x)::post) K E:=h
  unfold bE at h
  grind
 |(k,i,o)::pre,post,E,hN,hap,h=>by
  have h:bE P T ((k,i,o)::(pre++(kx,ix,x)::post)) K E:=h
  obtain⟨hk,Zo,hT0⟩:=hap _ List.mem_cons_self
  unfold bE at h
  rw[if_neg (by omega),if_neg hk]at h
  obtain⟨v,h1,h2,h3,h4⟩:=h
  obtain⟨u,i1,i2,i3,i4⟩:=Ye hkx hTx pre post (bZ E o v) (rI hN h2) (fun y hy=>hap y (List.mem_cons_of_mem _ hy)) h4
  obtain⟨a1,a2,a3,a4,a5,a6,a7,c1,c2⟩:=Jt Zo
  have hx:Y2 P E x u:=i1.LJ (uN h1 a1 a4 c2 hN hT0).symm
   (fun i hi=>(kR fun e=>a3 i i e (uW hi) rfl).symm)
   (fun i hi hf=>ml (fun z hz _=>(my o v z).2 (.inl hz)) hf)
  have ho:Y2 P (bZ E x u) o v:=h1.LJ (uN hx a2 a5 c1 hN hTx)
   (fun i hi=>kR fun e=>a3 i i (uW hi) e rfl)
   (fun i hi hf=>ml (fun z hz hzi=>by
     rcases(my _ _ z).1 hz with hz|⟨j,j1,_,j3⟩
     ·exact hz
     ·rw[hzi]at j3;exact(i2 j j1 i (hT0 i hi) j3).elim) hf)
  have Gg:lf (bZ (bZ E o v) x u) (bZ (bZ E x u) o v):=Eh a3 a6 a7
  refine⟨u,hx,i2,fun e=>by grind [Ba],?_⟩
  show bE P T ((k,i,o)::(pre++post)) K (bZ E x u)
  unfold bE
  rw[if_neg (by omega),if_neg hk]
  grind [Ba,zF]
theorem Yf{K:St->Prop}{kx ix:Nat}{x:au}(hkx:2<=kx)(ah3:¬3<=kx):∀(pre:List Item)(post:List Item)(E:St),(∀y∈pre,(y.1=1\/y.1=0/\Ig y.2.2 x=true)/\YM y.2.2 x=true)->bE P T (pre++(kx,ix,x)::post) K E->
 bn E x.dst=true/\x.g=none/\vB P x.op E (fun a s=>bE P T (pre++post) K (behind E x.dst a s))
 |[],post,E,_,h=>by
  have h:bE P T ((kx,ix,x)::post) K E:=h
  unfold bE at h
  grind
 |(k,i,o)::pre,post,E,hap,h=>by
  have h:bE P T ((k,i,o)::(pre++(kx,ix,x)::post)) K E:=h
  obtain⟨U7,Zo⟩:=hap _ List.mem_cons_self
  have U7:k=1\/k=0/\Ig o x=true:=U7
  have U8:¬3<=k/\¬2<=k:=by rcases U7 with h|⟨h,_⟩<;>omega
  unfold bE at h
  rw[if_neg U8.1,if_neg U8.2]at h
  obtain⟨v,h1,h2,h3,h4⟩:=h
  obtain⟨i1,i2,i3⟩:=Yf hkx ah3 pre post (bZ E o v) (fun y hy=>hap y (List.mem_cons_of_mem _ hy)) h4
  obtain⟨a1,a2,a3,a4⟩:=Qn Zo
  have hf:bn E x.dst=true:=by
   cases hd:x.dst with
   |none=>rfl
   |some d=>
    rw[hd]at i1
    have e:bw (look (bZ E o v).e d)=bw (look E.e d):=kR fun e=>a4 d e hd
    show bw (look E.e d)=true
    rw[<-e];exact i1
  have hcg:∀{C:AV->ae->Prop},vB P x.op (bZ E o v) C->vB P x.op E C:=fun hh=>B9 (E:=bZ E o v) (fun y hy=>by
   cases y with
   |c a=>rfl
   |t j=>
    have hj:j∈cm x:=List.mem_append_right _ (gU hy)
    show look (bZ E o v).e j=look E.e j
    rw[dE,if_neg (ue a2 hj),F3]
    have:=List.all_eq_true.1 a1 j hj
    grind) (oW o v) hh
  rcases U7 with rfl|⟨rfl,hl⟩
  ·refine⟨hf,i2,hcg (ya (fun av s hv hb=>?_) i3)⟩
   show bE P T ((1,i,o)::(pre++post)) K (behind E x.dst av s)
   unfold bE
   rw[if_neg (by omega),if_neg (by omega)]
   refine⟨v,h1.behind (h3 rfl) a3 hf hv a4,h2,fun _=>by rw[PZ a3];exact h3 rfl,?_⟩
   exact zF _ (x6 a3 a4).symm hb
  ·refine⟨hf,i2,hcg ?_⟩
   refine OW hl (fun av s hv vI hb=>?_) i3
   show bE P T ((0,i,o)::(pre++post)) K (behind E x.dst av s)
   unfold bE
   rw[if_neg (by omega),if_neg (by omega)]
   refine⟨v,h1.Um hl (by grind [oW]) a3 hf hv a4,h2,fun e=>(by cases e),?_⟩
   exact zF _ (x6 a3 a4).symm hb
end
section
variable{P:Program}{n:Nat}{D:List Deferred}{ops:Array Oper}{T:List Nat}
def Bef(ops:Array Oper)(j i:Nat):Prop:=∀L:Nat->Prop,(∀m,L m->∀d,gZ ops m d=true->L d)->(∀d,gZ ops j d=true->L d)->L i
theorem Gc(acc:List Nat)(i:Nat):∀(l:List Edge)(s:Nat),(l.foldl (fun s e=>bif Region.binds .any e then s |||(1<<<e.on)|||acc.getD e.on 0 else s) s).testBit i=true->
 s.testBit i=true\/∃e∈l,Region.binds .any e=true/\(i=e.on\/(acc.getD e.on 0).testBit i=true)
 |[],s,h=>.inl h
 |e::l,s,h=>by
  rw[List.foldl_cons]at h
  rcases Gc acc i l _ h with h|⟨e',h1,h2⟩
  ·cases hb:Region.binds .any e with
   |false=>grind
   |true=>
    rw[hb,cond_true,Nat.testBit_or,Nat.testBit_or,Bool.or_eq_true,Bool.or_eq_true]at h
    rcases h with(h|h)|h
    ·exact .inl h
    ·refine .inr ⟨e,List.mem_cons_self,hb,.inl ?_⟩
     rw[Nat.testBit_shiftLeft,Bool.and_eq_true,decide_eq_true_eq]at h
     grind [Nat.testBit_one_eq_true_iff_self_eq_zero]
    grind
  grind
theorem GH:∀(l:List Oper)(acc:List Nat),l=ops.toList.drop acc.length->(∀j i,(acc.getD j 0).testBit i=true->Bef ops j i)->∀j i,((GG l acc).getD j 0).testBit i=true->Bef ops j i
 |[],acc,_,h=>h
 |o::l,acc,hl,h=>by
  have ho:ops[acc.length]? =some o:=by
   have:(ops.toList.drop acc.length)[0]? =some o:=by rw[<-hl];rfl
   simpa using this
  refine GH l (acc++[Im acc o]) ?_ fun j i hb=>?_
  ·have:(ops.toList.drop acc.length).tail=l:=by rw[<-hl];rfl
   simp_all
  ·by_cases hj:j<acc.length
   ·grind
   ·by_cases he:j=acc.length
    ·subst he
     have hb:(Im acc o).testBit i=true:=by simpa[List.getD_eq_getElem?_getD]using hb
     unfold Im at hb
     rcases Gc acc i _ _ hb with h0|⟨e,e1,e2,e3⟩
     ·simp at h0
     ·intro L hc hd
      have hle:L e.on:=hd _ ((lO ho).2 ⟨e,by grind,e2,rfl⟩)
      rcases e3 with rfl|e3
      ·exact hle
      ·exact h e.on i e3 L hc (hc _ hle)
    grind
theorem GN{ms:List Nat}:∀{l:List Item},IB ops ms l=true->l.Pairwise fun x y=>zo ops ms x y=true
 |[],_=>.nil
 |x::r,h=>by
  simp only[IB,Bool.and_eq_true]at h
  exact .cons (fun y hy=>List.all_eq_true.1 h.1 y hy) (GN h.2)
structure Ql(ops:Array Oper)(L0 L:List Item)(listed:Array Bool):Prop where
 size:listed.size=ops.size
 sub:L.Sublist L0
 un:∀x∈L,listed.getD x.2.1 true=false
 li:∀k,k<ops.size->(∀x∈L,x.2.1≠k)->listed.getD k false=true
 cl:∀m,listed.getD m false=true->∀i,gZ ops m i=true->listed.getD i false=true
theorem yB{l:Array Bool}{i j:Nat}{b:Bool}(h:j≠i):(l.setIfInBounds i true).getD j b=l.getD j b:=by simp[Array.getElem?_setIfInBounds,h.symm]
theorem EZ{l:Array Bool}{i:Nat}{b:Bool}(h:i<l.size):(l.setIfInBounds i true).getD i b=true:=by simp[h]
theorem wi{l:Array Bool}{i j:Nat}(h:l.getD j false=true):(l.setIfInBounds i true).getD j false=true:=by
 by_cases e:j=i
 ·subst e
  rcases Nat.lt_or_ge j l.size with hj|hj
  ·simp_all
  grind
 ·rw[yB e];exact h
theorem N9{x:Item}(h:Dr P T n ops x=true)(hk:¬2<=x.1):Vc T x.2.2:=fun c hc=>by
 simp only[Dr,Bool.and_eq_true]at h
 have h2:=h.2
 unfold RK at hc
 grind
theorem wT.behind{E:St}(h:wT T E){d:Option Nat}{a:AV}{s:ae}(ha:uE a):wT T (behind E d a s):=fun i c hc=>by
 unfold AB.behind
 rw[mj]
 by_cases e:d=some i
 ·rw[if_pos e];exact ha.2 c
 ·rw[if_neg e];exact h i c hc
theorem afQ{K:St->Prop}{Q:Exit->Act->World->Prop}(G₀:Gh)(w₀:World){L0:List Item}(hI:∀x∈L0,Dr P T n ops x=true)(hP:L0.Pairwise fun x y=>zo ops (GG ops.toList []) x y=true)
 (hn:∀G' E' a' w',Inv G' n D E' a' w'->aK G₀ w₀ G' w'->K E'->Q .normal a' w'):
 ∀(m:Nat)(L:List Item),L.length=m->∀(listed:Array Bool)(E:St),Ql ops L0 L listed->wT T E->bE P T L K E->∀(G:Gh)(a:Act)(w:World),Inv G n D E a w->aK G₀ w₀ G w->wpAny P .any ops Q m listed a w:=by
 intro m
 induction m with
 |zero=>
  intro L hL listed E hg _ hb G a w h hp
  obtain rfl:=List.eq_nil_of_length_eq_zero hL
  refine⟨List.eq_nil_iff_forall_not_mem.2 fun j hj=>?_,?_⟩
  ·obtain⟨r1,r2,r3⟩:=jM hj
   have:=yA (hg.li j r1 fun x hx=>by cases hx)
   grind
  ·obtain⟨τ,t1,t2⟩:=hb
   exact hn G τ a w (h.eqv t1.symm) hp t2
 |succ m ih=>
  intro L hL listed E hg hN hb G a w h hp
  have hPL:=hP.sublist hg.sub
  refine⟨fun h0=>?_,fun i hi=>?_⟩
  ·cases L with
   |nil=>simp at hL
   |cons x r=>
    have hx:=hI x (hg.sub.subset List.mem_cons_self)
    simp only[Dr,Bool.and_eq_true]at hx
    have CY:x.2.1∈Region.ready .any ops listed:=by
     cases ho:ops[x.2.1]? with
     |none=>grind
     |some o=>
      rw[ho]at hx
      have hx1:(g9 P n ops o x.2.2&&o.after.all fun e=>!Region.binds .any e||(decide (e.on<ops.size)&&e.on !=x.2.1))=true:=hx.1
      rw[Bool.and_eq_true]at hx1
      refine mem_ready.2 ⟨hg.un x List.mem_cons_self,o,ho,fun e he hbn=>?_⟩
      have h3:=Array.all_eq_true_iff_forall_mem.1 hx1.2 e he
      rw[hbn]at h3
      simp only[Bool.not_true,Bool.false_or,Bool.and_eq_true,decide_eq_true_eq,bne_iff_ne]at h3
      refine hg.li e.on h3.1 fun y hy=>?_
      rcases List.mem_cons.1 hy with rfl|hy
      ·grind
      ·intro e'
       have:=(List.pairwise_cons.1 hPL).1 y hy
       simp only[zo,Bool.and_eq_true,Bool.not_eq_true']at this
       grind [gZ,lO]
    grind
  ·obtain⟨r1,r2,r3⟩:=jM hi
   have hex:∃x∈L,x.2.1=i:=by
    apply Classical.byContradiction
    intro hno
    have:=yA (hg.li i r1 fun x hx e=>hno ⟨x,hx,e⟩)
    rw[r2]at this;cases this
   obtain⟨⟨kx,ix,x⟩,hx,e0⟩:=hex
   have e0:ix=i:=e0
   subst e0
   obtain⟨pre,post,rfl⟩:=List.append_of_mem hx
   have hxi:=hI _ (hg.sub.subset hx)
   have hPw:=List.pairwise_append.1 hPL
   have hpx:∀y∈pre,zo ops (GG ops.toList []) y (kx,ix,x)=true:=fun y hy=>hPw.2.2 y hy _ List.mem_cons_self
   have hxp:∀y∈post,zo ops (GG ops.toList []) (kx,ix,x) y=true:=(List.pairwise_cons.1 hPw.2.1).1
   have Rs:∀y∈pre,XU y.1 kx y.2.2 x=true:=fun y hy=>by
    have h1:=hpx y hy
    simp only[zo,Bool.and_eq_true,Bool.or_eq_true]at h1
    rcases h1.2.2 with h2|h2
    ·have hbf:=GH (ops:=ops) ops.toList [] (by simp) (fun j i hh=>by simp at hh) _ _ h2
     have:=yA (hbf (fun m=>listed.getD m false=true) hg.cl r3)
     rw[hg.un y (List.mem_append_left _ hy)]at this;cases this
    ·exact h2
   have hne:∀y∈pre++post,y.2.1≠ix:=fun y hy=>by
    rcases List.mem_append.1 hy with hy|hy
    ·have:=hpx y hy
     simp only[zo,Bool.and_eq_true,bne_iff_ne]at this
     grind
    ·have:=hxp y hy
     simp only[zo,Bool.and_eq_true,bne_iff_ne]at this
     grind
   have hg':Ql ops L0 (pre++post) (listed.setIfInBounds ix true):=by
    refine⟨by simp[hg.size],((List.sublist_cons_self _ post).append_left pre).trans hg.sub,fun y hy=>?_,fun k hk hno=>?_,fun m' hm' d hd=>?_⟩
    ·rw[yB (hne y hy)]
     refine hg.un y ?_
     grind
    ·by_cases e:k=ix
     ·subst e;exact EZ (by grind)
     ·refine wi (hg.li k hk fun y hy=>?_)
      grind
    ·refine wi ?_
     by_cases e:m'=ix
     ·grind
     ·rw[yB e]at hm';exact hg.cl m' hm' d hd
   have hlen:(pre++post).length=m:=by simp at hL⊢;omega
   have hxo:g9 P n ops ops[ix] x=true:=by
    simp only[Dr,Bool.and_eq_true]at hxi
    have h1:=hxi.1
    rw[Array.getElem?_eq_getElem r1]at h1
    have h1:(g9 P n ops ops[ix] x&&_)=true:=h1
    rw[Bool.and_eq_true]at h1
    exact h1.1
   by_cases hk3:3<=kx
   ·obtain rfl:pre=[]:=by
     cases pre with
     |nil=>rfl
     |cons y pre=>
      have h1:=Rs y List.mem_cons_self
      obtain⟨ky,iy,yo⟩:=y
      obtain⟨k,rfl⟩:∃k,kx=k+3:=⟨kx -3,by omega⟩
      match ky with
      |0=>cases h1
      |1=>cases h1
      |_+2=>cases h1
    have hb:bE P T ((kx,ix,x)::post) K E:=hb
    unfold bE at hb
    rw[if_pos hk3]at hb
    obtain⟨τ,t1,t2⟩:=hb
    refine oq (o:=ops[ix]) (by simp[r1]) (gB (h.eqv t1.symm) hxo t2 fun G' E' a' w' k1 k2 k3=>?_)
    exact ih ([]++post) hlen _ E' hg' (fun i c hc=>nZ k3.1 i c hc) (Cb _ _ k3.2) G' a' w' k1 (hp.trans k2)
   by_cases hk:2<=kx
   ·have hap:∀y∈pre,(y.1=1\/y.1=0/\Ig y.2.2 x=true)/\YM y.2.2 x=true:=fun y hy=>by
     have h1:=Rs y hy
     obtain⟨ky,iy,yo⟩:=y
     obtain rfl:kx=2:=by omega
     match ky with
     |0=>
      have h1:(Ig yo x&&YM yo x)=true:=h1
      grind
     |1=>exact⟨.inl rfl,h1⟩
     |_+2=>cases h1
    obtain⟨p1,p2,p3⟩:=Yf hk hk3 pre post E hap hb
    have hbb:T4 P x E (fun τ=>wT T τ/\bE P T (pre++post) K τ):=by
     unfold T4
     rw[p2]
     exact⟨p1,ya (fun av s hv hh=>⟨hN.behind hv,hh⟩) p3⟩
    have hK':∀τ U',lf τ U'->(wT T τ/\bE P T (pre++post) K τ)->wT T U'/\bE P T (pre++post) K U':=fun τ U' e hh=>⟨fun i c hc=>by rw[<-e.e i];exact hh.1 i c hc,zF _ e hh.2⟩
    refine oq (o:=ops[ix]) (by simp[r1]) (gB h hxo (Ul hK' hbb) fun G' E' a' w' k1 k2 k3=>?_)
    exact ih (pre++post) hlen _ E' hg' k3.1 k3.2 G' a' w' k1 (hp.trans k2)
   ·have hap:∀y∈pre,¬2<=y.1/\W7 y.2.2 x=true/\Vc T y.2.2:=fun y hy=>by
     have h1:=Rs y hy
     have hyT:=fun hh=>N9 (hI y (hg.sub.subset (List.mem_append_left _ hy))) hh
     obtain⟨ky,iy,yo⟩:=y
     match ky,kx,hk with
     |0,0,_=>exact⟨fun hh=>absurd hh (by simp),h1,hyT (by simp)⟩
     |0,1,_=>exact⟨fun hh=>absurd hh (by simp),h1,hyT (by simp)⟩
     |1,0,_=>exact⟨fun hh=>absurd hh (by simp),h1,hyT (by simp)⟩
     |1,1,_=>exact⟨fun hh=>absurd hh (by simp),h1,hyT (by simp)⟩
     |k+2,0,_=>cases h1
     |k+2,1,_=>cases h1
     |_,k+2,hk=>grind
    obtain⟨v,p1,p2,p3,p4⟩:=Ye hk (N9 hxi hk) pre post E hN hap hb
    refine oq (o:=ops[ix]) (by simp[r1]) (Y2.run h hxo p1 fun G' a' w' k1 k2=>?_)
    exact ih (pre++post) hlen _ (bZ E x v) hg' (rI hN p2) p4 G' a' w' k1 (hp.trans k2)
theorem Y5(hm:P.follows .mixedOrders=true):WX P n:=by
 intro D id ops T l G E a w K Q hc h hno hw hn
 simp only[YW,Bool.and_eq_true,beq_iff_eq]at hc
 obtain⟨⟨h1,h2⟩,h3,h4⟩:=hc
 refine wp_region_any hm ?_
 have hg:Ql ops l l (Array.replicate ops.size false):=by
  refine⟨by simp,List.Sublist.refl l,fun x hx=>?_,fun k hk hno=>?_,fun m hm i hi=>?_⟩
  ·have hlt:x.2.1<ops.size:=by
    have:=List.all_eq_true.1 h3 x hx
    simp only[Dr,Bool.and_eq_true]at this
    cases ho:ops[x.2.1]? with
    |none=>grind
    |some o=>grind
   simp[hlt]
  ·obtain⟨x,hx,e⟩:=List.any_eq_true.1 (List.all_eq_true.1 h2 k (List.mem_range.2 hk))
   grind
  ·rcases Nat.lt_or_ge m ops.size with hlt|hge
   ·simp_all
   grind
 have:=afQ (T:=T) (P:=P) (n:=n) (K:=K) (Q:=Q) G w (fun x hx=>List.all_eq_true.1 h3 x hx) (GN h4) hn l.length l rfl _ E hg (fun i c hc=>nZ hno i c hc) (Cb l E hw) G a {w with drawn:=w.drawn+1} h.drew (aK.drew G w)
 grind
theorem zC:∀(p s:List Bool),xR p s=p.reverse++s
 |[],s=>rfl
 |x::p,s=>by unfold xR;rw[zC p];simp
theorem Lx{done:List Bool}{F:au->List Bool->Prop}:∀{rows:List (List Bool)}{pre xs:List Bool}{r:List au}{j:Nat}{row:List Bool}{o:au},Nh done rows pre xs r F->rows[j]? =some row->r[j]? =some o->xs[j]? =some false->we row done=true->F o (xR pre (xs.set j true))
 |row::rows,pre,x::xs,o::r,0,row',o',h,h1,h2,h3,h4=>by
  injection h1 with h1;injection h2 with h2;injection h3 with h3
  subst h1;subst h2;subst h3
  have:=h.1
  grind
 |row::rows,pre,x::xs,o::r,j+1,row',o',h,h1,h2,h3,h4=>by
  have:=Lx (j:=j) h.2 (by simpa using h1) (by simpa using h2) (by simpa using h3) h4
  rw[zC]at this⊢
  simpa using this
 |[],_,_,_,_,_,_,_,h1,_,_,_=>by simp at h1
 |_::_,_,[],_,_,_,_,_,_,_,h3,_=>by simp at h3
 |_::_,_,_::_,[],_,_,_,_,_,h2,_,_=>by simp at h2
theorem OM:∀{row done:List Bool},(∀i,row.getD i false=true->done.getD i false=true)->we row done=true
 |[],_,_=>rfl
 |_::_,[],_=>rfl
 |d::row,x::done,h=>by
  have h0:=h 0
  have ht:=OM (row:=row) (done:=done) fun i hi=>by have:=h (i+1);grind
  unfold we
  grind
structure ac0(ops:Array Oper)(done:List Bool)(listed:Array Bool):Prop where
 size:listed.size=ops.size
 len:done.length=ops.size
 eq:∀j,done.getD j false=listed.getD j false
theorem count_set:∀{l:List Bool}{j:Nat},l[j]? =some false->(l.set j true).count false+1=l.count false
 |x::l,0,h=>by grind
 |x::l,j+1,h=>by grind
 |[],_,h=>by simp at h
theorem Yr{K:St->Prop}{Q:Exit->Act->World->Prop}{fO:List (List Bool)}{bG:List au}(G₀:Gh)(w₀:World)(hI:cu P n ops ops.toList bG=true)(hX:Nu ops fO=true)
 (hn:∀G' E' a' w',Inv G' n D E' a' w'->aK G₀ w₀ G' w'->K E'->Q .normal a' w'):
 ∀(f:List au)(done:List Bool)(listed:Array Bool)(E:St),ac0 ops done listed->done.count false=f.length->ON P fO bG K f done E->∀(G:Gh)(a:Act)(w:World),Inv G n D E a w->aK G₀ w₀ G w->wpAny P .any ops Q f.length listed a w
 |[],done,listed,E,hg,hc,hw,G,a,w,h,hp=>by
  refine⟨List.eq_nil_iff_forall_not_mem.2 fun j hj=>?_,hn G E a w h hp hw⟩
  obtain⟨r1,r2,r3⟩:=jM hj
  have h2:listed.getD j false=false:=by
   have hlt:j<listed.size:=by rw[hg.size];exact r1
   simp only[Array.getD_eq_getD_getElem?,Array.getElem?_eq_getElem hlt,Option.getD_some]at r2⊢
   exact r2
  rw[<-hg.eq j]at h2
  have hlt:j<done.length:=by rw[hg.len];exact r1
  grind
 |o0::f,done,listed,E,hg,hc,hw,G,a,w,h,hp=>by
  have hX':=hX
  simp only[Nu,Bool.and_eq_true,beq_iff_eq]at hX'
  obtain⟨hl,eD⟩:=hX'
  refine⟨fun h0=>?_,fun i hi=>?_⟩
  ·exfalso
   have hex:∃j,j<ops.size/\listed.getD j false=false:=by
    apply Classical.byContradiction
    intro hno
    have:done.count false=0:=List.count_eq_zero.2 fun hm=>by
     obtain⟨j,hj,e⟩:=List.getElem_of_mem hm
     refine hno ⟨j,by rw[<-hg.len];exact hj,?_⟩
     rw[<-hg.eq,List.getD_eq_getElem?_getD,List.getElem?_eq_getElem hj,Option.getD_some,e]
    rw[this]at hc;simp at hc
   obtain⟨j,hj⟩:=hex
   induction j using Nat.strongRecOn with
   |_ j ih=>
    by_cases hk:∃k,k<j/\k<ops.size/\listed.getD k false=false
    ·grind
    ·have hj2:=List.all_eq_true.1 eD j (List.mem_range.2 hj.1)
     simp only[Bool.and_eq_true]at hj2
     have h3:=hj2.2
     rw[Array.getElem?_eq_getElem hj.1]at h3
     have CY:j∈Region.ready .any ops listed:=by
      refine mem_ready.2 ⟨?_,ops[j],Array.getElem?_eq_getElem hj.1,fun e he hb=>?_⟩
      ·have hlt:j<listed.size:=by rw[hg.size];exact hj.1
       grind
      ·have h4:=Array.all_eq_true_iff_forall_mem.1 h3 e he
       grind
     grind
  ·obtain⟨r1,r2,r3⟩:=jM hi
   have hlt:i<listed.size:=by rw[hg.size];exact r1
   have pU:i<done.length:=by rw[hg.len];exact r1
   have r2':listed.getD i false=false:=by
    simp only[Array.getD_eq_getD_getElem?,Array.getElem?_eq_getElem hlt,Option.getD_some]at r2⊢
    exact r2
   have hd:done[i]? =some false:=by
    rw[<-hg.eq i,List.getD_eq_getElem?_getD,List.getElem?_eq_getElem pU,Option.getD_some]at r2'
    rw[List.getElem?_eq_getElem pU,r2']
   obtain⟨hlen,sf⟩:=fW _ _ hI
   have hli:i<bG.length:=by rw[<-hlen];simpa using r1
   have hio:bG[i]? =some bG[i]:=List.getElem?_eq_getElem hli
   have hco:g9 P n ops ops[i] bG[i]=true:=sf i ops[i] bG[i] (by simp[r1]) hio
   have hj2:=List.all_eq_true.1 eD i (List.mem_range.2 r1)
   simp only[Bool.and_eq_true,beq_iff_eq]at hj2
   have eO:fO[i]? =some (fO.getD i []):=by
    have:i<fO.length:=by rw[hl];exact r1
    rw[List.getD_eq_getElem?_getD,List.getElem?_eq_getElem this,Option.getD_some]
   have hrd:we (fO.getD i []) done=true:=OM fun k hk=>by
    have hkl:k<ops.size:=by
     rw[<-hj2.1.1]
     apply Classical.byContradiction
     intro hno
     rw[List.getD_eq_getElem?_getD,List.getElem?_eq_none (by omega)]at hk
     cases hk
    have:=List.all_eq_true.1 hj2.1.2 k (List.mem_range.2 hkl)
    rw[hk]at this
    rw[hg.eq]
    grind
   have hx:=Lx (F:=fun o d=>Lz P o E (fun τ=>ON P fO bG K f d τ)) hw eO hio hd hrd
   refine oq (o:=ops[i]) (by simp[r1]) (gB h hco hx fun G' E' a' w' k1 k2 k3=>?_)
   refine Yr G₀ w₀ hI hX hn f _ _ E' ⟨by simp[hg.size],by rw[zC];simp[hg.len],fun k=>?_⟩ ?_ k3 G' a' w' k1 (hp.trans k2)
   ·rw[zC]
    show(([]:List Bool).reverse++done.set i true).getD k false=_
    rw[List.reverse_nil,List.nil_append]
    by_cases e:k=i
    ·simp_all
    ·rw[yB e,<-hg.eq,List.getD_eq_getElem?_getD,List.getD_eq_getElem?_getD,List.getElem?_set_ne (Ne.symm e)]
   grind [zC,List.reverse_nil,count_set]
theorem Y8(hm:P.follows .mixedOrders=true):W0 P n:=by
 intro D id ops fO bG G E a w K Q hc hx h hw hn
 refine wp_region_any hm ?_
 have hlen:bG.length=ops.size:=by have:=(fW _ _ hc).1;simpa using this.symm
 have hf:∀l:List au,uK l=List.replicate l.length false:=by
  intro l
  induction l with
  |nil=>rfl
  |cons o r ih=>grind [uK]
 have:=Yr (P:=P) (n:=n) (K:=K) (Q:=Q) G w hc hx hn bG (uK bG) (Array.replicate ops.size false) E ⟨by simp,by grind,fun j=>by
  rw[hf,hlen]
  rcases Nat.lt_or_ge j ops.size with hj|hj
  ·simp[hj]
  grind⟩ (by rw[hf];simp) hw G a {w with drawn:=w.drawn+1} h.drew (aK.drew G w)
 grind
theorem kA(hm:P.follows .mixedOrders=true):wS P n:=⟨Y6 hm,Y7 hm,Y5 hm,Y8 hm⟩
end
end Go.AB
end
section
namespace Go.AB
open Go Go.RowKit
def VQ:ae:=fun _=>none
section
variable{P:Program}{w w':World}
end
end Go.AB
end
section
namespace Go.AB
open Go
theorem nr(a b:List AV):views (a++b)=views a++views b:=by simp[views]
theorem wQ:∀l:List (List AV),(∀x∈l,views x=x)->views l.flatten=l.flatten
 |[],_=>rfl
 |a::l,h=>by rw[List.flatten_cons,nr,h a List.mem_cons_self,wQ l fun x hx=>h x (List.mem_cons_of_mem _ hx)]
class bp(α:Type)where
 w:Nat
 cells:α->List AV
 zero:α
 pos:0<w
 len:∀x,(cells x).length=w
 vw:∀x,views (cells x)=cells x
structure aH where
 b:List UInt8
 deriving DecidableEq,Inhabited
section
variable{α:Type}[bp α]
def flat(l:List α):List AV:=(l.map bp.cells).flatten
def ix(l:List α)(i:Int):α:=l.getD i.toNat bp.zero
theorem aR:∀l:List α,(flat l).length=l.length*bp.w α
 |[]=>by simp[flat]
 |a::l=>by
  have:=aR l
  simp only[flat,List.map_cons,List.flatten_cons,List.length_append,bp.len]at this⊢
  rw[this,List.length_cons,Nat.add_mul,Nat.one_mul,Nat.add_comm]
@[go_sem]theorem sR:flat ([]:List α)=[]:=rfl
@[go_sem]theorem jT(a:α)(l:List α):flat (a::l)=bp.cells a++flat l:=rfl
@[go_sem]theorem ew(a b:List α):flat (a++b)=flat a++flat b:=by simp[flat]
@[go_sem]theorem bd(l:List α):views (flat l)=flat l:=wQ _ fun x hx=>by
  obtain⟨y,_,rfl⟩:=List.mem_map.1 hx
  exact bp.vw y
theorem zJ(l:List α):∀k,(flat l).drop (k*bp.w α)=flat (l.drop k):=by
 induction l with
 |nil=>intro k;simp[flat]
 |cons a l ih=>intro k;cases k with
  |zero=>simp
  |succ k=>
   rw[jT,List.drop_succ_cons,<-ih k,Nat.succ_mul,Nat.add_comm,<-List.drop_drop]
   congr 1
   rw[<-bp.len a,List.drop_left]
theorem zK(l:List α):∀k,(flat l).take (k*bp.w α)=flat (l.take k):=by
 induction l with
 |nil=>intro k;simp[flat]
 |cons a l ih=>intro k;cases k with
  |zero=>simp[sR]
  |succ k=>
   rw[jT,List.take_succ_cons,jT,<-ih k,Nat.succ_mul,Nat.add_comm,List.take_append]
   rw[bp.len a,List.take_of_length_le (by rw[bp.len];omega)]
   congr 2
   omega
theorem pR(l:List α)(n lo m:Nat)(hn:n=bp.w α):AB.sub (flat l) (lo*n) (m*n)=flat ((l.drop lo).take m):=by
 subst hn
 unfold AB.sub
 rw[zJ,zK]
theorem yw(z:List AV)(n:Nat)(l:List α)(i:Int)(hz:z=bp.cells (bp.zero:α))(hn:n=bp.w α):pad z (views (AB.sub (flat l) (i.toNat*n) n))=bp.cells (ix l i):=by
 subst hn
 have h1:AB.sub (flat l) (i.toNat*bp.w α) (bp.w α)=flat ((l.drop i.toNat).take 1):=by
  have:=pR l (bp.w α) i.toNat 1 rfl
  rwa[Nat.one_mul]at this
 rw[h1,bd]
 unfold pad ix
 rcases Nat.lt_or_ge i.toNat l.length with hlt|hge
 ·rw[List.drop_eq_getElem_cons hlt,List.take_succ_cons,List.take_zero,jT,sR,List.append_nil,hz,bp.len,bp.len,beq_self_eq_true]
  simp[List.getD,List.getElem?_eq_getElem hlt]
 ·rw[List.drop_eq_nil_of_le hge,List.take_nil,sR,hz,bp.len]
  have:(([]:List AV).length==bp.w α)=false:=by
   have:=bp.pos (α:=α)
   simp;omega
  rw[this]
  simp[List.getD,List.getElem?_eq_none hge]
def part(l:List α)(lo hi:Int):List α:=(l.drop lo.toNat).take (hi -lo).toNat
theorem Gb(n:Nat)(l:List α)(lo hi:Int)(hn:n=bp.w α):AB.sub (flat l) (lo.toNat*n) ((hi -lo).toNat*n)=flat (part l lo hi):=pR l n _ _ hn
theorem Q7(n:Nat)(l:List α)(hn:n=bp.w α):(flat l).length/n=l.length:=by
 subst hn
 rw[aR];exact Nat.mul_div_cancel _ bp.pos
end
instance:bp Bool:=⟨1,fun b=>[.bool b],false,Nat.one_pos,fun _=>rfl,fun _=>rfl⟩
instance:bp Int:=⟨1,fun n=>[.int .i64 n],0,Nat.one_pos,fun _=>rfl,fun _=>rfl⟩
instance:bp UInt8:=⟨1,fun n=>[.int .u8 n.toNat],0,Nat.one_pos,fun _=>rfl,fun _=>rfl⟩
instance:bp UInt32:=⟨1,fun n=>[.int .u32 n.toNat],0,Nat.one_pos,fun _=>rfl,fun _=>rfl⟩
instance:bp UInt64:=⟨1,fun n=>[.int .u64 n.toNat],0,Nat.one_pos,fun _=>rfl,fun _=>rfl⟩
instance:bp aH:=⟨1,fun s=>[.str s.b],⟨[]⟩,Nat.one_pos,fun _=>rfl,fun _=>rfl⟩
instance{α:Type}[bp α]:bp (List α):=⟨1,fun l=>[.sl false (bp.w α) l.length (flat l)],[],Nat.one_pos,fun _=>rfl,fun _=>rfl⟩
@[go_sem]theorem abG(x:Int):bp.cells x=[.int .i64 x]:=rfl
@[go_sem]theorem adm(x:UInt8):bp.cells x=[.int .u8 x.toNat]:=rfl
@[go_sem]theorem YV{α:Type}[bp α](x:List α):bp.cells x=[.sl false (bp.w α) x.length (flat x)]:=rfl
@[go_sem]theorem ajI:bp.w Int=1:=rfl
@[go_sem]theorem akm:bp.w UInt8=1:=rfl
@[go_sem]theorem V4(l:List Int)(i:Int):pad [.int .i64 0] (views (AB.sub (flat l) (i.toNat*1) 1))=[.int .i64 (ix l i)]:=yw _ 1 l i rfl rfl
@[go_sem]theorem Sy(l:List UInt8)(i:Int):pad [.int .u8 0] (views (AB.sub (flat l) (i.toNat*1) 1))=[.int .u8 (ix l i).toNat]:=yw _ 1 l i rfl rfl
@[go_sem]theorem afc{α:Type}[bp α](l:List (List α))(i:Int)(n:Nat)(hn:n=bp.w α):pad [.sl false n 0 []] (views (AB.sub (flat l) (i.toNat*1) 1))=[.sl false (bp.w α) (ix l i).length (flat (ix l i))]:=by
  subst hn
  exact yw _ 1 l i rfl rfl
def ok{α:Type}(o:Option α)(K:α->Prop):Prop:=∃a,o=some a/\K a
def aL{α:Type}(c:Prop)[Decidable c](o:Option α):Option α:=if c then o else none
def en{α:Type}(g:Bool)(z:α)(o:Option α):Option α:=bif g then o else some z
def aP{α β:Type}(o:Option α)(f:α->Option β):Option β:=match o with
 |some a=>f a
 |none=>none
def bV{S O:Type}(body:S->Option (S⊕O)):Nat->S->Option O
 |0,_=>none
 |n+1,s=>match body s with
  |none=>none
  |some (.inl t)=>bV body n t
  |some (.inr o)=>some o
def iter{S O:Type}(body:S->Option (S⊕O))(s:S):Option O:=bV body 18446744073709551616 s
def jS{A B C:Type}(f:A->C)(g:B->C):A⊕B->C
 |.inl a=>f a
 |.inr b=>g b
section
variable{α β:Type}(K:α->Prop)
@[go_sem]theorem ba(a:α):ok (some a) K=K a:=by simp[ok]
@[go_sem]theorem ok_none:ok none K=False:=by simp[ok]
@[go_sem]theorem eW(c:Prop)[Decidable c](o:Option α):ok (aL c o) K=(c/\ok o K):=by grind [aL,ok]
@[go_sem]theorem gM(o:Option β)(f:β->Option α):ok (aP o f) K=ok o (fun b=>ok (f b) K):=by cases o<;>simp[aP,ok]
@[go_sem]theorem Sq(c:Bool)(a b:Option α):ok (if c=true then a else b) K=((c=true->ok a K)/\(c=false->ok b K)):=by grind
theorem VX(g:Bool)(z:α)(o:Option α):ok (en g z o) K=∃a,(g=true->o=some a)/\(g=false->a=z)/\K a:=by grind [en,ok]
@[go_sem]theorem jd{A B C:Type}(f:A->C)(g:B->C)(a:A):jS f g (.inl a)=f a:=rfl
@[go_sem]theorem uU{A B C:Type}(f:A->C)(g:B->C)(b:B):jS f g (.inr b)=g b:=rfl
end
theorem bP{A B C D:Prop}(h:A->C)(k:B->D):A/\B->C/\D:=fun x=>⟨h x.1,k x.2⟩
theorem cX{p A B:Prop}(h:A->B):(p->A)->p->B:=fun x y=>h (x y)
theorem cU{A:Prop}:A->A:=fun h=>h
variable{P:Program}
theorem aF{β:Type}{o:Option β}{kf:β->Prop}{f:FuncId}{as1:List AV}{s:ae}{enc:β->List AV}{Q:List AV->ae->Prop}
 (hf:∀r,o=some r->FE P f as1 s (enc r) s)(hk:∀r,kf r->Q (enc r) s):ok o kf->FN P f as1 s Q:=fun⟨r,h,k⟩=>FE.app (hf r h) (hk r k)
theorem cK{β:Type}{o:Option β}{kf:β->Prop}{f:FuncId}{as1:List AV}{s:ae}{enc:β->List AV}{Q:List AV->Prop}
 (hf:∀r,o=some r->FE P f as1 s (enc r) s)(hr:∀r,iX (enc r)=true)(hk:∀r,kf r->Q (enc r)):ok o kf->∃rs,iX rs=true/\FE P f as1 s rs s/\Q rs:=
 fun⟨r,h,k⟩=>⟨enc r,hr r,hf r h,hk r k⟩
theorem dn{β:Type}{g:Bool}{z:β}{o:Option β}{kf:β->Prop}{f:FuncId}{as1:Option (List AV)}{as2:List AV}{s:ae}{enc:β->List AV}{Q:List AV->Prop}
 (ha:as1=some as2)(hf:∀r,o=some r->FE P f as2 s (enc r) s)(hr:∀r,iX (enc r)=true)(hk:∀r,kf r->Q (enc r)):
 ok (en g z o) kf->∃rs,iX rs=true/\(g=true->∃as2,as1=some as2/\FE P f as2 s rs s)/\Q rs:=fun h=>by
 grind [VX]
def okj{α:Type}(o:Option α)(K:α->Prop):Prop:=ok o K
def jn{α β:Type}(o:Option α)(f:α->Option β):Option β:=aP o f
@[go_sem]theorem ajw{α β:Type}(K:α->Prop)(o:Option β)(f:β->Option α):ok (jn o f) K=okj o (fun b=>ok (f b) K):=gM ..
theorem dm{X:Type}{M:Option X}{kf:X->Prop}{live:List (Nat×Bool)}{a b:IC}{Q:Exit->St->Prop}{E:St}(enc:X->St)
 (ha:∀J:St->Prop,ok M (fun x=>J (enc x))->fK P a (oJ live J Q) E)(hb:∀x,kf x->fK P b Q (enc x)):okj M kf->fK P (.join live a b) Q E:=fun⟨x,h,k⟩=>
 ⟨fun τ=>∃x,τ=enc x/\kf x,ha _ ⟨x,h,x,rfl,k⟩,fun _⟨x,e,k⟩=>e▸hb x k⟩
theorem rm{S O:Type}{body:S->Option (S⊕O)}{s:S}{K:O->Prop}:¬ok (bV body 0 s) K:=fun⟨_,h,_⟩=>by cases h
theorem rl{S O:Type}{body:S->Option (S⊕O)}{n:Nat}{s:S}{K:O->Prop}(h:ok (bV body (n+1) s) K):ok (body s) (jS (fun t=>ok (bV body n t) K) K):=by
 obtain⟨o,h,k⟩:=h
 unfold bV at h
 cases hb:body s with
 |none=>grind
 |some x=>
  rw[hb]at h
  cases x with
  |inl t=>exact⟨_,rfl,⟨o,h,k⟩⟩
  |inr o'=>cases h;exact⟨_,rfl,k⟩
theorem xG{live:List (Nat×Bool)}{I:St->Prop}{μ:St->Nat}{m:Nat}{Q:Exit->St->Prop}:Sa live I μ m Q=oJ live (fun ρ=>I ρ/\μ ρ<m) Q:=by funext x ρ;cases x<;>rfl
theorem dk{S O:Type}{body:S->Option (S⊕O)}{s0:S}{kf:O->Prop}{live:List (Nat×Bool)}{b:IC}{Q:Exit->St->Prop}{E:St}(enc:S->St)
 (h0:E.ed live=enc s0)
 (hb:∀(J:St->Prop)(s:S),ok (body s) (jS (fun t=>J (enc t)) kf)->fK P b (oJ live J Q) (enc s)):ok (iter body s0) kf->fK P (.loop live b) Q E:=by
 intro h
 have HP:∀τ,(∃m s,τ=enc s/\ok (bV body m s) kf)->∃m,(∃s,τ=enc s/\ok (bV body m s) kf)/\∀k,k<m->¬∃s,τ=enc s/\ok (bV body k s) kf:=by
  rintro τ ⟨m,s,h⟩
  induction m using Nat.strongRecOn generalizing s with
  |_ m ih=>grind
 have hμ:∃μ:St->Nat,∀τ,(∃m s,τ=enc s/\ok (bV body m s) kf)->(∃s,τ=enc s/\ok (bV body (μ τ) s) kf)/\∀k,k<μ τ->¬∃s,τ=enc s/\ok (bV body k s) kf:=by exact⟨fun τ=>Classical.epsilon fun m=>(∃s,τ=enc s/\ok (bV body m s) kf)/\∀k,k<m->¬∃s,τ=enc s/\ok (bV body k s) kf,fun τ hτ=>Classical.epsilon_spec (HP τ hτ)⟩
 obtain⟨μ,hμ⟩:=hμ
 refine⟨fun τ=>∃m s,τ=enc s/\ok (bV body m s) kf,μ,?_,?_⟩
 ·exact⟨_,s0,h0,h⟩
 ·intro τ hτ
  obtain⟨⟨s,e,hs⟩,_⟩:=hμ τ hτ
  generalize hm:μ τ=m at hs
  cases m with
  |zero=>grind [rm]
  |succ m=>
   subst e
   rw[xG]
   obtain⟨x,hx,k⟩:=rl hs
   refine hb _ s ⟨x,hx,?_⟩
   cases x with
   |inr o=>exact k
   |inl t=>
    refine⟨⟨m,t,rfl,k⟩,?_⟩
    have h2:=(hμ (enc t) ⟨m,t,rfl,k⟩).2
    rcases Nat.lt_or_ge m (μ (enc t))with hlt|hge
    ·exact(h2 m hlt ⟨t,rfl,k⟩).elim
    ·omega
theorem y9{S O:Type}{body:S->Option (S⊕O)}{s0:S}{kf:O->Prop}{live:List (Nat×Bool)}{l:Nat}{r:IC}{Q:Exit->St->Prop}{E:St}(enc:S->St)
 (h0:E=enc s0)
 (hb:∀(J:St->Prop)(s:S),ok (body s) (jS (fun t=>J (enc t)) kf)->fK P r (Ib l live J Q) (enc s)):ok (iter body s0) kf->T8 P l live r Q E:=by
 intro h
 have HP:∀τ,(∃m s,τ=enc s/\ok (bV body m s) kf)->∃m,(∃s,τ=enc s/\ok (bV body m s) kf)/\∀k,k<m->¬∃s,τ=enc s/\ok (bV body k s) kf:=by
  rintro τ ⟨m,s,h⟩
  induction m using Nat.strongRecOn generalizing s with
  |_ m ih=>grind
 have hμ:∃μ:St->Nat,∀τ,(∃m s,τ=enc s/\ok (bV body m s) kf)->(∃s,τ=enc s/\ok (bV body (μ τ) s) kf)/\∀k,k<μ τ->¬∃s,τ=enc s/\ok (bV body k s) kf:=by exact⟨fun τ=>Classical.epsilon fun m=>(∃s,τ=enc s/\ok (bV body m s) kf)/\∀k,k<m->¬∃s,τ=enc s/\ok (bV body k s) kf,fun τ hτ=>Classical.epsilon_spec (HP τ hτ)⟩
 obtain⟨μ,hμ⟩:=hμ
 refine⟨fun τ=>∃m s,τ=enc s/\ok (bV body m s) kf,μ,?_,?_⟩
 ·exact⟨_,s0,h0,h⟩
 ·intro τ hτ
  obtain⟨⟨s,e,hs⟩,_⟩:=hμ τ hτ
  generalize hm:μ τ=m at hs
  cases m with
  |zero=>grind [rm]
  |succ m=>
   subst e
   obtain⟨x,hx,k⟩:=rl hs
   refine hb _ s ⟨x,hx,?_⟩
   cases x with
   |inr o=>exact k
   |inl t=>
    refine⟨⟨m,t,rfl,k⟩,?_⟩
    have h2:=(hμ (enc t) ⟨m,t,rfl,k⟩).2
    rcases Nat.lt_or_ge m (μ (enc t))with hlt|hge
    ·exact(h2 m hlt ⟨t,rfl,k⟩).elim
    ·omega
def m5{X Y α:Type}(M:Option (X⊕Y))(F:X->Option α)(G:Y->Option α):Option α:=match M with
 |some (.inl x)=>F x
 |some (.inr y)=>G y
 |none=>none
@[go_sem]theorem VW{X Y α:Type}(M:Option (X⊕Y))(F:X->Option α)(G:Y->Option α)(K:α->Prop):ok (m5 M F G) K=ok M (jS (fun x=>ok (F x) K) (fun y=>ok (G y) K)):=by
  cases M with
  |none=>simp[m5,ok]
  |some x=>grind [m5,ok,jS]
def uY{X Y α:Type}(M:Option (X⊕Y))(F:X->Option α)(G:Y->Option α):Option α:=m5 M F G
@[go_sem]theorem aiz{X Y α:Type}(M:Option (X⊕Y))(F:X->Option α)(G:Y->Option α)(K:α->Prop):ok (uY M F G) K=okj M (jS (fun x=>ok (F x) K) (fun y=>ok (G y) K)):=VW ..
theorem gE{X Y:Type}{M:Option (X⊕Y)}{kf:X->Prop}{kr:Y->Prop}{live:List (Nat×Bool)}{a b:IC}{Q:Exit->St->Prop}{E:St}(enc:X->St)
 (ha:∀J:St->Prop,ok M (jS (fun x=>J (enc x)) kr)->fK P a (oJ live J Q) E)(hb:∀x,kf x->fK P b Q (enc x)):okj M (jS kf kr)->fK P (.join live a b) Q E:=fun⟨x,h,k⟩=>by
 refine⟨fun τ=>∃x,τ=enc x/\kf x,ha _ ⟨x,h,?_⟩,fun _⟨x,e,k⟩=>e▸hb x k⟩
 cases x with
 |inl x=>exact⟨x,rfl,k⟩
 |inr y=>exact k
@[go_sem]theorem OX(c:UInt8):byteOf (.int .u8 c.toNat)=some c:=by
  unfold byteOf
  have:=c.toNat_lt
  simp only[Int.natCast_nonneg,true_and,Int.toNat_natCast]
  rw[if_pos (by omega)]
  simp
@[go_sem]theorem Hr:∀l:List UInt8,bytesOf (flat l)=some l
  |[]=>rfl
  |c::l=>by
   rw[jT]
   show QK (byteOf (.int .u8 c.toNat)) (bytesOf (flat l))=_
   rw[OX,Hr l];rfl
@[go_sem]theorem aeG(l:List UInt8):(l.map fun c=>AV.int .u8 c.toNat)=flat l:=by
  induction l with
  |nil=>rfl
  |cons a l ih=>rw[List.map_cons,ih];rfl
def aw(n:Int):Int:=IntKind.i64.wrap n
def gX(n:Int):UInt8:=UInt8.ofNat (IntKind.u8.wrap n).toNat
def dw(n:Int):UInt32:=UInt32.ofNat (IntKind.u32.wrap n).toNat
def Ja(n:Int):UInt64:=UInt64.ofNat (IntKind.u64.wrap n).toNat
@[go_sem]theorem agl(n:Int):jo .i64 n=aw n:=rfl
theorem Ez(k:IntKind)(n:Int)(hk:k.signed=false):k.wrap n=n % (2^k.bits:Int):=by grind [IntKind.wrap]
@[go_sem]theorem wrap_u8(n:Int):jo .u8 n=(gX n).toNat:=by
  show IntKind.u8.wrap n=((UInt8.ofNat (IntKind.u8.wrap n).toNat).toNat:Int)
  rw[Ez _ _ rfl,UInt8.toNat_ofNat']
  have:(2^IntKind.u8.bits:Int)=256:=by decide
  grind
@[go_sem]theorem wrap_u32(n:Int):jo .u32 n=(dw n).toNat:=by
  show IntKind.u32.wrap n=((UInt32.ofNat (IntKind.u32.wrap n).toNat).toNat:Int)
  rw[Ez _ _ rfl,UInt32.toNat_ofNat']
  have:(2^IntKind.u32.bits:Int)=4294967296:=by decide
  grind
@[go_sem]theorem wrap_u64(n:Int):jo .u64 n=(Ja n).toNat:=by
  show IntKind.u64.wrap n=((UInt64.ofNat (IntKind.u64.wrap n).toNat).toNat:Int)
  rw[Ez _ _ rfl,UInt64.toNat_ofNat']
  have:(2^IntKind.u64.bits:Int)=18446744073709551616:=by decide
  grind
def kl(k:IntKind)(a b:Int):Int:=a*2^(min b.toNat k.bits)
def jA(k:IntKind)(a b:Int):Int:=a.fdiv (2^(min b.toNat k.bits))
def o6(k:IntKind)(a b:Int):Int:=(BitVec.ofInt k.bits a&&&BitVec.ofInt k.bits b).toNat
def Fk(k:IntKind)(a b:Int):Int:=(BitVec.ofInt k.bits a |||BitVec.ofInt k.bits b).toNat
def TY(k:IntKind)(a b:Int):Int:=(BitVec.ofInt k.bits a^^^BitVec.ofInt k.bits b).toNat
def xZ(k:IntKind)(a b:Int):Int:=(BitVec.ofInt k.bits a&&& ~~~BitVec.ofInt k.bits b).toNat
@[go_sem]theorem ac7(k k':IntKind)(a b:Int):sc .shl k k' a b=.fw (0<=b) (.int k (jo k (kl k a b))):=rfl
@[go_sem]theorem ac8(k k':IntKind)(a b:Int):sc .shr k k' a b=.fw (0<=b) (.int k (jA k a b)):=rfl
@[go_sem]theorem ac6(k k':IntKind)(a b:Int):sc .and k k' a b=kk k k' (.dh (.int k (jo k (o6 k a b)))):=rfl
@[go_sem]theorem agq(k k':IntKind)(a b:Int):sc .or k k' a b=kk k k' (.dh (.int k (jo k (Fk k a b)))):=rfl
@[go_sem]theorem ac9(k k':IntKind)(a b:Int):sc .xor k k' a b=kk k k' (.dh (.int k (jo k (TY k a b)))):=rfl
@[go_sem]theorem Xe(k k':IntKind)(a b:Int):sc .andNot k k' a b=kk k k' (.dh (.int k (jo k (xZ k a b)))):=rfl
@[go_sem]theorem agz(l:List UInt8)(k:Int):l.getD k.toNat 0=ix l k:=rfl
@[go_sem]theorem agR(l:List UInt8)(lo hi:Int):(l.drop lo.toNat).take (hi -lo).toNat=part l lo hi:=rfl
attribute[go_sem] List.length_append true_or or_true eq_self_iff_true imp_self Bool.cond_true_left Bool.cond_false_right and_self and_true
def mv(d x:Nat):au:=⟨some d,.oM false (.t x),none⟩
def mt(d x:Nat):au:=⟨some d,.oM true (.t x),none⟩
def mvg(d x t:Nat)(w:Bool):au:=⟨some d,.oM false (.t x),some (t,w)⟩
def mtg(d x t:Nat)(w:Bool):au:=⟨some d,.oM true (.t x),some (t,w)⟩
def i1(d:Nat)(o:rY):au:=⟨some d,o,none⟩
def i1g(d t:Nat)(w:Bool)(o:rY):au:=⟨some d,o,some (t,w)⟩
def i0(o:rY):au:=⟨none,o,none⟩
def i0g(t:Nat)(w:Bool)(o:rY):au:=⟨none,o,some (t,w)⟩
attribute[go_sem] mv mt mvg mtg i1 i1g i0 i0g
@[go_sem]theorem afW(a:AV)(l:List AV)(off n:Nat):AB.sub (a::l) off n=((a::l).drop off).take n:=rfl
attribute[go_sem] Gb Q7
@[go_sem]theorem aac(E:St)(b:Bool)(a:AV)(d:Option Nat):b9 E (.when b a) d=b9 E a d:=by rw[b9]
end Go.AB
end
section
namespace Go.AB
open Go
def lx(t s:ae):Prop:=∀b o,t b=some o->s b=some o
theorem lx.refl(s:ae):lx s s:=fun _ _ h=>h
theorem lx.trans{a b c:ae}(h:lx a b)(k:lx b c):lx a c:=fun x o hx=>k x o (h x o hx)
theorem lx.set{t s:ae}{b:Nat}{o:SO}(h:lx t s)(hb:t b=none):lx t (s.set b o):=fun c p hc=>by
 unfold ae.set
 by_cases hcb:c=b
 ·grind
 ·rw[if_neg hcb];exact h c p hc
theorem lx.mono{t s:ae}{b:Nat}{o:SO}(h:lx t s):lx (t.set b o) (s.set b o):=fun c p hc=>by
 unfold ae.set at hc⊢
 by_cases hcb:c=b
 ·grind
 ·rw[if_neg hcb]at hc⊢;exact h c p hc
variable{P:Program}
theorem FN.forget{f:FuncId}{args:List AV}{s:ae}{Q:List AV->ae->Prop}(h:FN P f args s fun rs t=>∃t',lx t' t/\Q rs t'):FN P f args s Q:=by
 intro G w vs h1 h2 h3 h4
 refine(h G w vs h1 h2 h3 h4).mono fun e w'⟨v,rs,s',G',a1,⟨t',ht,hq⟩,a3,a4,a5⟩=>⟨v,rs,t',G',a1,hq,a3,fun b o hb=>a4 b o (ht b o hb),a5⟩
theorem fH(s:ae)(b:Nat)(o:SO):(s.set b o) b=some o:=by simp[ae.set]
theorem ah{s:ae}{b c:Nat}{o:SO}(h:c≠b):(s.set b o) c=s c:=by simp[ae.set,h]
theorem set_set(s:ae)(b:Nat)(o p:SO):(s.set b o).set b p=s.set b p:=by grind [ae.set]
theorem set_comm{a b:Nat}(h:a≠b){s:ae}{o p:SO}:(s.set b p).set a o=(s.set a o).set b p:=by grind [ae.set]
theorem abe{s:ae}{b:Nat}{o:SO}(h:s b=some o):s=s.set b o:=by grind [ae.set]
theorem aY{s:ae}{b:Nat}{o:SO}(h:s b=some o):s.set b o=s:=(abe h).symm
theorem iD(s:ae)(b c:Nat)(o:SO):((s.set b o) c=none)=(c≠b/\s c=none):=by grind [ae.set]
attribute[go_sem] fH set_set
theorem aO{α:Type}{o:Option α}{K K':α->Prop}(h:ok o K)(hk:∀r,K r->K' r):ok o K':=h.imp fun r⟨h1,h2⟩=>⟨h1,hk r h2⟩
section
variable(Q:Exit->St->Prop)(E τ:St)
@[go_sem]theorem abK(b:IC):fK P (.scope b) Q E=fK P b (xN Q) E:=by
  have:(fun x τ=>match x with|.goto _=>False|x=>Q x τ)=xN Q:=by funext e τ;cases e<;>rfl
  show fK P b (fun x τ=>match x with|.goto _=>False|x=>Q x τ) E=_
  rw[this]
@[go_sem]theorem abc:xN Q .ret τ=Q .ret τ:=rfl
@[go_sem]theorem Yt(i:Nat):xN Q (.exit i) τ=Q (.exit i) τ:=rfl
end
def BN(sz len n:Nat)(x:IX):AV->PR
 |.lp d o=>.fw (n+1<=len) (.lp d (o+n*sz))
 |.sp cs=>bif decide (len*sz<=cs.length)then .fw (n+1<=len) (.sp (cs.drop (n*sz)))else .no
 |.ref b o=>.fw (n+1<=len) (.ref b (o+n*sz))
 |.loc _=>Pw (n+1<=len) (n*sz) x
 |_=>.no
attribute[go_sem] BN.eq_1 BN.eq_2 BN.eq_3 BN.eq_4
def Jd{α:Type}(l:List α)(i:Int)(x:α):List α:=l.take i.toNat++[x]++l.drop (i.toNat+1)
theorem J5{α:Type}[bp α](l:List α)(i:Int)(x:α)(n:Nat)(hn:n=bp.w α):setAt (flat l) (i.toNat*n) (bp.cells x)=flat (Jd l i x):=by
 subst hn
 unfold setAt Jd
 rw[ew,ew,jT,sR,List.append_nil,zK,bp.len]
 congr 1
 rw[show i.toNat*bp.w α+bp.w α=(i.toNat+1)*bp.w α from by grind,zJ]
@[go_sem]theorem aho(l:List UInt32)(i:Int)(x:UInt32):setAt (flat l) (i.toNat*1) [.int .u32 x.toNat]=flat (Jd l i x):=J5 l i x 1 rfl
@[go_sem]theorem abd(a:AV)(l:List AV)(off:Nat)(news:List AV):setAt (a::l) off news=(a::l).take off++news++(a::l).drop (off+news.length):=rfl
@[go_sem]theorem afb(z:List AV)(a:AV)(l:List AV):pad z (a::l)=bif(a::l).length==z.length then a::l else z:=rfl
@[go_sem]theorem D4{α:Type}[bp α](n:Nat)(z:α):(List.replicate n (bp.cells z)).flatten=flat (List.replicate n z):=by simp[flat]
section
variable{d d':Option Nat}{K:St->Prop}{E:St}{b off:Nat}{news gN:List AV}
@[go_sem]theorem ahd:Tr d K (wrS E b (gb off news gN))=(off+news.length<=gN.length/\K (({E with s:=E.s.set b (.cells (setAt gN off news))}:St).put d (.iP []))):=by grind [gb,wrS,Tr]
@[go_sem]theorem ahc{i:Nat}:Tr d K (wrL E i (gb off news gN))=(off+news.length<=gN.length/\K ((E.put (some i) (.loc (setAt gN off news))).put d (.iP []))):=by grind [gb,wrL,Tr]
end
@[go_sem]theorem XZ(n:Nat):(((no_index (OfNat.ofNat n)):Nat):Int)=OfNat.ofNat n:=rfl
def ahR{κ ν:Type}(ek:κ->AV)(ev:ν->AV)(m:List (κ×ν)):List (AV×AV):=m.map fun p=>(ek p.1,ev p.2)
section
variable{κ ν:Type}[BEq κ]{ek:κ->AV}{ev:ν->AV}
end
attribute[go_sem] VI.eq_1
theorem ao{κ ν:Type}(ek:κ->AV)(ev:ν->AV):ahR ek ev []=[]:=rfl
@[go_sem]theorem ag8(n:Nat):(List.replicate n [AV.int .i64 0]).flatten=flat (List.replicate n (0:Int)):=D4 n (0:Int)
@[go_sem]theorem aiO(n:Nat):(List.replicate n [AV.int .u8 0]).flatten=flat (List.replicate n (0:UInt8)):=D4 n (0:UInt8)
@[go_sem]theorem ag9(n:Nat):(List.replicate n [AV.int .u32 0]).flatten=flat (List.replicate n (0:UInt32)):=D4 n (0:UInt32)
end Go.AB
end
