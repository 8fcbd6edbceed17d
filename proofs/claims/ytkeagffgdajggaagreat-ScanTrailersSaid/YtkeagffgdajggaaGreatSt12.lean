/- A part. -/
import Derived.Test.YtkeagffgdajggaaGreatSt11
set_option linter.unusedSimpArgs false
set_option linter.unusedVariables false
section
namespace Go.AB
open Go
def lD(G G2:Gh):Prop:=∀b,G.R b<=G2.R b/\(G.O b≠.sh->G2.O b=G.O b/\G2.R b=G.R b)
theorem FN.conv{P:Program}{f:FuncId}{args:List AV}{s:ab}{Q Q':List AV->ab->Prop}(h:FN P f args s Q)
 (k:∀rs s',Q rs s'->∀G w v,bR G w->aO G w s'->nj G w rs v->∃rs2 s2 G2,Q' rs2 s2/\lD G G2/\bR G2 w/\aO G2 w s2/\nj G2 w rs2 v):FN P f args s Q':=by
 intro G w vs h1 h2 h3 h4
 refine(h G w vs h1 h2 h3 h4).mono fun e w'⟨v,rs,s',G',a,hq,hg,hs,hr,hp⟩=>?_
 obtain⟨rs2,s2,G2,k1,k2,k3,k4,k5⟩:=k rs s' hq G' w' v hg hs hr
 refine⟨v,rs2,s2,G2,a,k1,k3,k4,k5,hp.os,hp.tape,hp.output,hp.drawn,hp.size,fun b hb=>Nat.le_trans (hp.mono b hb) (k2 b).1,hp.lK,hp.frame,fun b hb ho=>?_,fun b hb ho=>?_⟩
 ·obtain⟨q1,q2⟩:=hp.iG b hb ho
  obtain⟨q3,q4⟩:=(k2 b).2 (by rw[q1];simp)
  exact⟨q3.trans q1,q4.trans q2⟩
 ·obtain⟨q1,q2⟩:=hp.pd b hb ho
  obtain⟨q3,q4⟩:=(k2 b).2 (by rw[q1];simp)
  exact⟨q3.trans q1,q4.trans q2⟩
section
variable{G:Gh}{w:World}{s:ab}{b:Nat}
theorem Mx(h:aO G w s)(hg:bR G w){cs:List AV}(hs:s b=some (.cells cs))(r:Nat):
 lD G (G.ot b (.res 0) r)/\bR (G.ot b (.res 0) r) w/\aO (G.ot b (.res 0) r) w (s.del b)/\(∀a v,VR w G.R a v->VR w (G.ot b (.res 0) r).R a v):=by
 obtain⟨q2,q3,c,t,q4,q5,q6⟩:=h b _ hs
 have hR:∀b',G.R b'<=(G.ot b (.res 0) r).R b':=fun b'=>by
  by_cases hb:b'=b
  ·subst hb;rw[q3];exact Nat.zero_le _
  ·simp[hb]
 have hv:∀a v,VR w G.R a v->VR w (G.ot b (.res 0) r).R a v:=fun a v h=>h.mono hR fun _ _ _=>rfl
 have same:∀b',b'≠b->(G.ot b (.res 0) r).O b'=G.O b'/\(G.ot b (.res 0) r).R b'=G.R b':=fun b' hb'=>⟨by simp[hb'],by simp[hb']⟩
 have hlt:b<w.heap.size:=hg.lt (by rw[q2];simp)
 refine⟨fun b'=>⟨hR b',fun hb'=>same b' fun e=>by subst e;exact hb' q2⟩,⟨fun b' hb'=>?_,fun b' hb'=>?_⟩,?_,hv⟩
 ·have:b'≠b:=by omega
  rw[(same b' this).1,hg.ik b' hb']
 ·have:b'≠b:=by omega
  rw[(same b' this).2,hg.iT b' hb']
 ·intro b' o hb'
  unfold ab.del at hb'
  split at hb'
  ·cases hb'
  ·rename_i hne
   obtain⟨r1,r2,r3⟩:=h b' o hb'
   refine⟨(same b' hne).1.trans r1,(same b' hne).2.trans r2,?_⟩
   cases o with
   |cells cs'=>
    obtain⟨c',t',r4,r5,r6⟩:=r3
    exact⟨c',t',r4,r5.mono hv (fun b'' j kl=>by
     have:b''≠b:=fun e=>by subst e;rw[q2]at kl;cases kl
     exact⟨(same b'' this).1.trans kl,(same b'' this).2,rfl⟩),r6⟩
   |map es=>
    obtain⟨gM,clock,r4,r5,r6⟩:=r3
    exact⟨gM,clock,r4,r5,fun j x y hx hy=>⟨hv _ _ (r6 j x y hx hy).1,hv _ _ (r6 j x y hx hy).2⟩⟩
theorem SA(h:aO G w s)(hg:bR G w){n cap sz:Nat}{cs sp:List AV}{v:Value}(hs:s b=some (.cells (cs++sp)))(hc:0<cap)(hn:n<=cap)(hl:(cs++sp).length=cap*sz)(hl2:cs.length=n*sz)(hvw:views (cs++sp)=cs++sp)
 (hr:nj G w [.arr b 0 n cap] v):∃G2,lD G G2/\bR G2 w/\aO G2 w (s.del b)/\nj G2 w [.us sz n cs] v:=by
 obtain⟨k1,k2,k3,k4⟩:=Mx h hg hs 0
 obtain⟨q2,q3,c,t,q4,q5,q6⟩:=h b _ hs
 refine⟨_,k1,k2,k3,.inr ⟨b,cap,c,t,sp,hc,hn,VR.pM hr.1 hc,by simp,by simp,q4,by rw[q5.1,hl],hl2,hl,fun j x u hx hu=>k4 _ _ (q5.2 j x u hx hu).1,q6.flat hvw,hvw⟩⟩
theorem P9{sz:Nat}{v:Value}(hr:nj G w [.arr b 0 0 0] v):nj G w [.us sz 0 []] v:=by
 rcases VR.cc hr.1 with e|⟨_,_,e⟩
 ·exact .inl ⟨rfl,rfl,.inr ⟨b,0,e⟩⟩
 ·exact .inl ⟨rfl,rfl,.inl e⟩
theorem Ml(h:aO G w s)(hg:bR G w){n cap sz:Nat}{cs sp:List AV}{v:Value}(hs:s b=some (.cells (cs++sp)))(hc:0<cap)(hn:n<=cap)(hl:(cs++sp).length=cap*sz)(hl2:cs.length=n*sz)(hvw:views cs=cs)
 (hr:nj G w [.arr b 0 n cap] v):∃G2,lD G G2/\bR G2 w/\aO G2 w (s.del b)/\nj G2 w [.sl true sz n cs] v:=by
 obtain⟨k1,k2,k3,k4⟩:=Mx h hg hs (n*sz)
 obtain⟨q2,q3,c,t,q4,q5,q6⟩:=h b _ hs
 have e:=VR.pM hr.1 hc
 refine⟨_,k1,k2,k3,?_,?_⟩
 ·rw[e]
  refine .sl true sz n cs b 0 cap (fun j=>c.getD j undef) (q6.left.flat hvw) hl2 (by simp[hl2]) hn (fun j x hj=>?_) (fun j x hj=>?_)
  all_goals
   have hj':(cs++sp)[j]? =some x:=by rw[List.getElem?_append_left (List.getElem?_eq_some_iff.1 hj).1];exact hj
   have hlt:j<c.size:=by rw[q5.1];exact(List.getElem?_eq_some_iff.1 hj').1
   have jU:c[j]? =some (c.getD j undef):=by simp[Array.getD_eq_getD_getElem?,hlt]
  ·rw[Nat.zero_add,cell_of_row w q4,jU]
  ·exact k4 _ _ (q5.2 j x _ hj' jU).1
 ·intro base m' dL hv _
  rw[e]at hv
  injection hv with e1 e2 e3
  subst e3
  exact⟨b,0,c,t,(0,0),e1.symm,by simp,by simp,q4,by rw[q5.1,hl,Nat.zero_add],fun j _ hj=>by simp at hj,Nat.le_refl _,rfl,.inl rfl,fun j y _ hy=>by
   have hlt:j<(cs++sp).length:=by rw[<-q5.1];exact(Array.getElem?_eq_some_iff.1 hy).1
   exact pg (q6 _ (List.getElem_mem hlt)) (q5.2 j _ y (List.getElem?_eq_getElem hlt) hy).1⟩
theorem Js{sz:Nat}{v:Value}(hr:nj G w [.arr b 0 0 0] v):nj G w [.sl true sz 0 []] v:=by
 rcases VR.cc hr.1 with e|⟨_,_,e⟩
 ·refine⟨?_,?_⟩
  ·rw[e];exact .sl true sz 0 [] b 0 0 (fun _=>undef) Fl.nil (by simp) (by simp) (Nat.le_refl _) (fun j c hj=>by simp at hj) (fun j c hj=>by simp at hj)
  ·intro base m' dL hv hc;rw[e]at hv;injection hv with _ e2 e3;omega
 ·refine⟨by rw[e];exact .slnil _ _,?_⟩
  intro base m' dL hv hc;rw[e]at hv;injection hv with _ e2 e3;omega
end
theorem AZ{s:ab}{b:Nat}{o:SO}(h:s b=none):(s.set b o).del b=s:=by
 funext i
 unfold ab.set ab.del
 by_cases e:i=b
 ·subst e;simp[h]
 ·simp[e]
@[go_sem]theorem gY{s:ab}{b:Nat}{o:SO}:(s.set b o) b=some o:=by unfold ab.set;simp
def Sub(s2 s:ab):Prop:=∀b o,s2 b=some o->s b=some o
theorem Sub.refl(s:ab):Sub s s:=fun _ _ h=>h
theorem Sub.set{s s2:ab}(h:Sub s2 s){b:Nat}{o:SO}(hb:s b=none):Sub s2 (s.set b o):=fun b' o' h'=>by
 have:=h b' o' h'
 unfold ab.set
 split
 ·rename_i e;subst e;rw[hb]at this;cases this
 ·exact this
theorem Sub.aeo{s s2:ab}(h:Sub s2 s){b:Nat}{o:SO}:Sub (s2.set b o) (s.set b o):=fun b' o' h'=>by
 unfold ab.set at h'⊢
 split
 ·rename_i e;rw[if_pos e]at h';exact h'
 ·rename_i e;rw[if_neg e]at h';exact h b' o' h'
theorem Sub.del{s s2:ab}(h:Sub s2 s){b:Nat}(hb:s2 b=none):Sub s2 (s.del b):=fun b' o' h'=>by
 unfold ab.del
 split
 ·rename_i e;subst e;rw[hb]at h';cases h'
 ·exact h b' o' h'
theorem Sub.none{s s2:ab}(h:Sub s2 s){b:Nat}(hb:s b=none):s2 b=none:=by
 cases h2:s2 b with
 |none=>rfl
 |some o=>have:=h b o h2;rw[hb]at this;cases this
theorem aO.sub{G:Gh}{w:World}{s s2:ab}(h:aO G w s)(hs:Sub s2 s):aO G w s2:=fun b o hb=>h b o (hs b o hb)
theorem lD.refl(G:Gh):lD G G:=fun _=>⟨Nat.le_refl _,fun _=>⟨rfl,rfl⟩⟩
theorem FN.qf{P:Program}{f:FuncId}{args:List AV}{s:ab}{Q:List AV->ab->Prop}(h:FN P f args s fun rs s'=>∃s2,Sub s2 s'/\Q rs s2):FN P f args s Q:=h.conv fun rs _⟨s2,h1,h2⟩ G _ _ hg hs hr=>⟨rs,s2,G,h2,lD.refl G,hg,hs.sub h1,hr⟩
theorem FN.W8{P:Program}{f:FuncId}{args:List AV}{s s2:ab}{Q:List AV->ab->Prop}{sz:Nat}{cs:List AV}{n:Nat}(hl2:cs.length=n*sz)(hvw:views cs=cs)(hq:Q [.sl true sz n cs] s2)
 (h:FN P f args s fun rs s'=>(∃b cap sp,rs=[.arr b 0 n cap]/\s' b=some (.cells (cs++sp))/\0<cap/\n<=cap/\(cs++sp).length=cap*sz/\Sub s2 (s'.del b))\/(n=0/\cs=[]/\Sub s2 s'/\∃b,rs=[.arr b 0 0 0])):FN P f args s Q:=by
 refine h.conv fun rs s' hq' G w v hg hs hr=>?_
 rcases hq' with⟨b,cap,sp,rfl,hb,hc,hn,hl,iH⟩|⟨rfl,rfl,iH,b,rfl⟩
 ·obtain⟨G2,k1,k2,k3,k4⟩:=Ml hs hg hb hc hn hl hl2 hvw hr
  exact⟨_,_,G2,hq,k1,k2,k3.sub iH,k4⟩
 ·exact⟨_,_,G,hq,lD.refl G,hg,hs.sub iH,Js hr⟩
theorem FN.W9{P:Program}{f:FuncId}{args:List AV}{s s2:ab}{Q:List AV->ab->Prop}{sz:Nat}{cs:List AV}{n:Nat}(hl2:cs.length=n*sz)(hq:Q [.us sz n cs] s2)
 (h:FN P f args s fun rs s'=>(∃b cap sp,rs=[.arr b 0 n cap]/\s' b=some (.cells (cs++sp))/\0<cap/\n<=cap/\(cs++sp).length=cap*sz/\views (cs++sp)=cs++sp/\Sub s2 (s'.del b))\/(n=0/\cs=[]/\Sub s2 s'/\∃b,rs=[.arr b 0 0 0])):FN P f args s Q:=by
 refine h.conv fun rs s' hq' G w v hg hs hr=>?_
 rcases hq' with⟨b,cap,sp,rfl,hb,hc,hn,hl,hvw,iH⟩|⟨rfl,rfl,iH,b,rfl⟩
 ·obtain⟨G2,k1,k2,k3,k4⟩:=SA hs hg hb hc hn hl hl2 hvw hr
  exact⟨_,_,G2,hq,k1,k2,k3.sub iH,k4⟩
 ·exact⟨_,_,G,hq,lD.refl G,hg,hs.sub iH,P9 hr⟩
def He:AV->Bool
 |.int _ _=>true
 |.bool _=>true
 |.str _=>true
 |_=>false
theorem Fk{w w':World}{R R':Nat->Nat}{a:AV}{v:Value}(h:He a=true)(hv:VR w R a v):VR w' R' a v:=by
 cases a<;>first|(cases h;done)|skip
 ·rw[VR.fR hv];exact .bool _
 ·rw[VR.bT hv];exact .int _ _
 ·rw[VR.eV hv];exact .str _
theorem FN.borrow{P:Program}{f:FuncId}{args Ez:List AV}{s:ab}{Q:List AV->ab->Prop}(b k:Nat)
 (h:FN P f Ez A6 fun rs _=>rs.all He=true/\Q rs s)
 (ha:∀(G:Gh)(w:World)(vs:Array Value),aO G w s->nq w G.R args vs->nq w (fun i=>if i=b/\b<w.heap.size then k else G.R i) Ez vs):FN P f args s Q:=by
 intro G w vs h1 h2 h3 h4
 let G1:Gh:=⟨fun i=>if i=b/\b<w.heap.size then k else G.R i,fun i=>if G.O i=.none then .none else .frame⟩
 have hO1:∀i,G1.O i=.frame\/G1.O i=.none:=fun i=>by
  show(if G.O i=.none then cD.none else cD.frame)=_\/_
  by_cases e:G.O i=.none<;>simp[e,G1]
 have hg1:bR G1 w:=⟨fun i hi=>by simp[G1,h1.ik i hi],fun i hi=>by
  have:¬(i=b/\b<w.heap.size):=by omega
  show(if i=b/\b<w.heap.size then k else G.R i)=0
  rw[if_neg this,h1.iT i hi]⟩
 refine(h G1 w vs hg1 (fun i=>(hO1 i).elim (fun e=>.inr (.inl e)) .inl) (fun i o hi=>by cases hi) (ha G w vs h3 h4)).mono fun e w'⟨v,rs,s',G',he,⟨hpl,hq⟩,_,_,hr,hp⟩=>?_
 have same:∀i,i<w.heap.size->w'.heap[i]? =w.heap[i]? :=fun i hi=>hp.frame i hi (hO1 i)
 have cS:∀i j,i<w.heap.size->w'.cell? ⟨i,j,none⟩=w.cell? ⟨i,j,none⟩:=fun i j hi=>World.cell?_of_block (same i hi)
 have hlt:∀i,G.O i≠.none->i<w.heap.size:=fun i hi=>h1.lt hi
 have hR0:∀i j,j<G.R i->i<w.heap.size:=fun i j hj=>by
  rcases Nat.lt_or_ge i w.heap.size with h|h
  ·exact h
  ·rw[h1.iT i h]at hj;omega
 have aV:az G w G w':=⟨hp.os,hp.tape,hp.output,hp.drawn,hp.size,fun _ _=>Nat.le_refl _,fun i j hi _=>cS i j hi,fun i hi _=>same i hi,fun i _ ho=>⟨ho,rfl⟩,fun i _ ho=>⟨ho,rfl⟩⟩
 have hg':bR G w':=⟨fun i hi=>h1.ik i (Nat.le_trans hp.size hi),fun i hi=>h1.iT i (Nat.le_trans hp.size hi)⟩
 refine⟨v,rs,s,G,he,hq,hg',h3.mono h1 aV (fun i hi=>⟨hi,rfl,same i (hlt i (by rw[hi];simp))⟩) (fun i c j _ hc=>⟨hc,rfl,same c (hlt c (by rw[hc];simp))⟩),?_,aV⟩
 match rs,hpl,hr with
 |[],_,hr=>
  obtain⟨ys,q1,q2,q3⟩:=hr
  exact⟨ys,q1,q2,fun j x y hx hy=>by simp at hx⟩
 |[a],hpl,hr=>
  have hpa:He a=true:=by simpa using hpl
  have hr':VR w' G'.R a v/\cQ G' w' (.res 0) a v:=by cases a<;>first|exact hr|(cases hpa;done)
  show Qu G w' a v
  have hv:=Fk (w':=w') (R':=G.R) hpa hr'.1
  cases a<;>first|exact⟨hv,trivial⟩|(cases hpa;done)
 |a1::a2::rr,hpl,hr=>
  obtain⟨ys,q1,q2,q3⟩:=hr
  refine⟨ys,q1,q2,fun j x y hx hy=>?_⟩
  have hpa:He x=true:=List.all_eq_true.1 hpl x (List.mem_of_getElem? hx)
  refine⟨Fk hpa (q3 j x y hx hy).1,?_⟩
  cases x<;>first|trivial|(cases hpa;done)
theorem Og{G:Gh}{w:World}{s:ab}{b n cap sz:Nat}{cs:List AV}{v:Value}(h:aO G w s)(hlen:cs.length=n*sz)(hn:n<=cap)(hvw:views cs=cs)(hs:cs≠[]->∃sp,s b=some (.cells (cs++sp)))(hv:VR w G.R (.arr b 0 n cap) v)(hsz:0<sz):
 VR w (fun i=>if i=b/\b<w.heap.size then n*sz else G.R i) (.sl false sz n cs) v:=by
 by_cases hcs:cs=[]
 ·subst hcs
  have hn0:n=0:=by
   rcases Nat.mul_eq_zero.1 hlen.symm with h|h
   ·exact h
   ·omega
  subst hn0
  rcases VR.cc hv with e|⟨_,_,e⟩
  ·rw[e];exact .sl false sz 0 [] b 0 cap (fun _=>undef) Fl.nil (by simp) (Nat.zero_le _) (Nat.zero_le _) (fun j c hj=>by simp at hj) (fun j c hj=>by simp at hj)
  ·rw[e];exact .slnil _ _
 ·obtain⟨sp,hs⟩:=hs hcs
  obtain⟨q2,q3,c,t,q4,q5,q6⟩:=h b _ hs
  have hb:b<w.heap.size:=by
   rcases Nat.lt_or_ge b w.heap.size with h|h
   ·exact h
   ·rw[Array.getElem?_eq_none h]at q4;cases q4
  have hn0:0<n:=by
   rcases Nat.eq_zero_or_pos n with h|h
   ·subst h;rw[Nat.zero_mul]at hlen;exact absurd (List.eq_nil_of_length_eq_zero hlen) hcs
   ·exact h
  have e:=VR.pM hv (by omega)
  rw[e]
  have ZP:∀a u,VR w G.R a u->VR w (fun i=>if i=b/\b<w.heap.size then n*sz else G.R i) a u:=fun a u h=>h.mono (fun i=>by
   show G.R i<=if i=b/\b<w.heap.size then n*sz else G.R i
   split
   ·rename_i e;rw[e.1,q3];exact Nat.zero_le _
   ·exact Nat.le_refl _) fun _ _ _=>rfl
  refine .sl false sz n cs b 0 cap (fun j=>c.getD j undef) (q6.left.flat hvw) hlen (by simp[hb,hlen]) hn (fun j x hj=>?_) (fun j x hj=>?_)
  all_goals
   have hj':(cs++sp)[j]? =some x:=by rw[List.getElem?_append_left (List.getElem?_eq_some_iff.1 hj).1];exact hj
   have hlt:j<c.size:=by rw[q5.1];exact(List.getElem?_eq_some_iff.1 hj').1
   have jU:c[j]? =some (c.getD j undef):=by simp[Array.getD_eq_getD_getElem?,hlt]
  ·rw[Nat.zero_add,cell_of_row w q4,jU]
  ·exact ZP _ _ (q5.2 j x _ hj' jU).1
def FP:Nat:=18446744073709551616
@[go_sem]theorem acy(a b:Nat):Nat.beq a b=(a==b):=Bool.eq_iff_iff.2 (by rw[Nat.beq_eq];simp)
theorem Rn{A C:Prop}{b:Bool}(h:b=true)(k:A->C):A->b=true/\C:=fun x=>⟨h,k x⟩
theorem aaC{A C:Prop}{a b:Nat}(h:a=b)(k:A->C):A->a=b/\C:=fun x=>⟨h,k x⟩
theorem FF{P:Program}{f:FuncId}{as1 as2 rs:List AV}{s s':ab}(e:as1=as2)(h:FE P f as1 s rs s'):FE P f as2 s rs s':=e▸h
def KS(E:St)(d:Option Nat)(K:St->Prop)(b off:Nat):Option SO->Prop
 |some (.cells cs)=>iD off cs fun cs' a=>K ({E with s:=E.s.set b (.cells cs')}.put d a)
 |_=>False
@[go_sem]theorem V0(E:St)(d:Option Nat)(K:St->Prop)(b off:Nat):nX E d K (.ref b off)=KS E d K b off (E.s b):=by
  show(match E.s b with|some (.cells cs)=>iD off cs fun cs' a=>K ({E with s:=E.s.set b (.cells cs')}.put d a)|_=>False)=_
  unfold KS
  rcases E.s b with _|⟨_|_⟩<;>rfl
@[go_sem]theorem Sf(E:St)(d:Option Nat)(K:St->Prop)(b off:Nat)(cs:List AV):KS E d K b off (some (.cells cs))=iD off cs fun cs' a=>K ({E with s:=E.s.set b (.cells cs')}.put d a):=rfl
@[go_sem]theorem Xm(o:Bool)(sz n:Nat)(ds cs:List AV)(k:List AV->AV->Prop):iD 0 (.sl o sz n ds::cs) k=k (.sl false sz n ds::cs) (.sl o sz n ds):=rfl
@[go_sem]theorem abH(t n:Nat)(ds cs:List AV)(k:List AV->AV->Prop):iD 0 (.bb t n ds::cs) k=k (.sl false 1 n ds::cs) (.bb t n ds):=rfl
@[go_sem]theorem Xl(a:AV)(n:Nat)(cs:List AV)(k:List AV->AV->Prop):iD (n+1) (a::cs) k=iD n cs fun cs' x=>k (a::cs') x:=by
  have e:∀x,setAt (a::cs) (n+1) [x]=a::setAt cs n [x]:=fun x=>by
   unfold setAt
   rw[List.take_succ_cons,show n+1+[x].length=(n+[x].length)+1 by simp[Nat.add_right_comm],List.drop_succ_cons]
   rfl
  unfold iD
  rw[List.getElem?_cons_succ]
  cases h:cs[n]? with
  |none=>rfl
  |some b=>cases b<;>first|rfl|(simp only[e])
def ixI:AV->Option Int
 |.int _ n=>some n
 |_=>none
@[go_sem]theorem aah(f:IX->AV)(d:Int):Dx f none d=some d:=rfl
@[go_sem]theorem aai(f:IX->AV)(x:IX)(d:Int):Dx f (some x) d=ixI (f x):=rfl
@[go_sem]theorem acr(k:IntKind)(n:Int):ixI (.int k n)=some n:=rfl
attribute[go_sem] Option.isSome_some Bool.cond_true
@[go_sem]theorem Tx(off cap sz:Nat):iE off cap 0 sz=off:=by
  unfold iE
  cases(cap==0)<;>simp
@[go_sem]theorem toNat_zero:(0:Int).toNat=0:=rfl
attribute[go_sem] Int.toNat_natCast Int.sub_zero Nat.sub_zero
@[go_sem]theorem toNat_sub'(a b:Nat):((a:Int) -(b:Int)).toNat=a -b:=by omega
section
variable{E:St}{d:Option Nat}{K:St->Prop}{sz by':Nat}{zero:List AV}{b off n cap m:Nat}{cs ds:List AV}
theorem QG{s:ab}(hs:s b=some (.cells cs))(hf:off+m*sz<=cs.length):tO s sz (.arr b off m cap)=some (m,views (AB.sub cs off (m*sz))):=by
 show(bif m==0 then some (0,[])else iZ m sz off (s b))=_
 by_cases hm:m=0
 ·subst hm;simp[AB.sub,views]
 ·rw[show(m==0)=false by simpa using hm,hs]
  show(bif decide (off+m*sz<=cs.length)then some (m,views (AB.sub cs off (m*sz)))else none)=_
  rw[decide_eq_true hf];rfl
theorem kQ(s:ab)(ow:Bool):tO s sz (.sl ow sz m ds)=some (m,views ds):=by unfold tO;simp
theorem yw{s:ab}(hs:s b=some (.cells cs))(hf:off+n*sz<=cs.length):mU s sz b off n=some (views (AB.sub cs off (n*sz))):=by
 unfold mU
 by_cases hm:n=0
 ·subst hm;simp[AB.sub,views]
 ·rw[show(n==0)=false by simpa using hm,hs]
  show((bif decide (off+n*sz<=cs.length)then some (n,views (AB.sub cs off (n*sz)))else none):Option (Nat×List AV)).map Prod.snd=_
  rw[decide_eq_true hf];rfl
theorem zu(hz:zero.length=sz)(hs:E.s b=some (.cells cs))(hf:off+cap*sz<=cs.length)(hm:n+m<=cap)
 (hk:K ({E with s:=E.s.set b (.cells (setAt cs (off+n*sz) ds))}.put d (.arr b off (n+m) cap))):dK sz by' zero E d K (.arr b off n cap) (some (m,ds)):=by
 have hn:off+n*sz<=cs.length:=Nat.le_trans (Nat.add_le_add_left (Nat.mul_le_mul_right _ (by omega)) _) hf
 show MF sz by' zero E d K b off n cap m ds (mU E.s sz b off n)
 rw[yw hs hn]
 refine⟨hz,fun _=>.inr ⟨by rw[hs];exact hf,?_⟩,fun h=>by omega⟩
 rw[hs];exact hk
theorem jM(hz:zero.length=sz){olds:List AV}(ho:mU E.s sz b off n=some olds)(hm:cap<n+m)(hr:(n+m)*by'<=room)
 (hk:∀b' dL,E.s b'=none->n+m<=dL->K ({E with s:=E.s.set b' (.cells (olds++ds++(List.replicate (dL -(n+m)) zero).flatten))}.put d (.arr b' 0 (n+m) dL))):dK sz by' zero E d K (.arr b off n cap) (some (m,ds)):=by
 show MF sz by' zero E d K b off n cap m ds (mU E.s sz b off n)
 rw[ho]
 exact⟨hz,fun h=>by omega,fun _=>⟨hr,hk⟩⟩
theorem DB(hz:zero.length=sz){olds:List AV}(ho:mU E.s sz b off n=some olds)(hm:n<=cap)(hk:K (E.put d (.arr b off n cap))):dK sz by' zero E d K (.arr b off n cap) (some (0,ds)):=by
 show MF sz by' zero E d K b off n cap 0 ds (mU E.s sz b off n)
 rw[ho]
 exact⟨hz,fun _=>.inl ⟨rfl,hk⟩,fun h=>by omega⟩
theorem MS(hs:E.s b=some (.cells cs))(hf:off+n*sz<=cs.length)
 (hk:K ({E with s:=E.s.set b (.cells (setAt cs off (ds.take (min m n*sz))))}.put d (.int .i64 (min m n:Nat)))):uM sz E d K (.arr b off n cap) (some (m,ds)):=by
 refine .inr ⟨by rw[hs];exact hf,?_⟩
 rw[hs];exact hk
theorem Kg(hz:views zero=zero)(hs:E.s b=some (.cells cs))(hf:off+n*zero.length<=cs.length)
 (hk:K ({E with s:=E.s.set b (.cells (setAt cs off (List.replicate n zero).flatten))}.put d (.gb []))):vM zero E d K (.arr b off n cap):=by
 refine .inr ⟨by rw[hs];exact hf,hz,?_⟩
 rw[hs];exact hk
theorem FL(hz:zero.length=sz)(hv:views zero=zero){olds:List AV}(ho:mU E.s sz b off n=some olds)(hm:cap<n+m)(hr:(n+m)*by'<=room)
 (hk:∀b' dL,E.s b'=none->n+m<=dL->K ({E with s:=E.s.set b' (.cells (olds++(List.replicate m zero).flatten++(List.replicate (dL -(n+m)) zero).flatten))}.put d (.arr b' 0 (n+m) dL))):qW sz by' zero E d K (.arr b off n cap) (.int .i64 (m:Nat)):=by
 show 0<=((m:Nat):Int)/\_
 refine⟨Int.natCast_nonneg m,by simpa using hm,hv,?_⟩
 rw[Int.toNat_natCast]
 show MF sz by' zero E d K b off n cap m _ (mU E.s sz b off n)
 rw[ho]
 exact⟨hz,fun h=>by omega,fun _=>⟨hr,hk⟩⟩
theorem MJ{off cap l sz:Nat}(h:l<cap):iE off cap l sz=off+l*sz:=by unfold iE;rw[show(cap==l)=false by simp;omega];rfl
end
section
variable{α:Type}[aR α]
theorem Ky(l:List α)(k:Nat):flat (l.take k)=(flat l).take (k*aR.w α):=(xX l k).symm
theorem Kx(l:List α)(k:Nat):flat (l.drop k)=(flat l).drop (k*aR.w α):=(EL l k).symm
theorem nI(l:List α)(sp:List AV)(n j m:Nat)(hn:n=aR.w α)(h:j+m<=l.length):AB.sub (flat l++sp) (j*n) (m*n)=flat ((l.drop j).take m):=by
 subst hn
 rw[<-jS l _ j m rfl]
 unfold AB.sub
 have h1:j*aR.w α<=(flat l).length:=by rw[aE];exact Nat.mul_le_mul_right _ (by omega)
 rw[List.drop_append_of_le_length h1,List.take_append_of_le_length]
 rw[List.length_drop,aE,<-Nat.sub_mul]
 exact Nat.mul_le_mul_right _ (by omega)
theorem p7(l l':List α)(sp:List AV)(n i:Nat)(hn:n=aR.w α)(h:i+l'.length<=l.length):setAt (flat l++sp) (i*n) (flat l')=flat (l.take i++l'++l.drop (i+l'.length))++sp:=by
 subst hn
 unfold setAt
 have e1:i*aR.w α+(flat l').length=(i+l'.length)*aR.w α:=by rw[aE,Nat.add_mul]
 have h1:i*aR.w α<=(flat l).length:=by rw[aE];exact Nat.mul_le_mul_right _ (by omega)
 have h2:(i+l'.length)*aR.w α<=(flat l).length:=by rw[aE];exact Nat.mul_le_mul_right _ h
 rw[e1,List.take_append_of_le_length h1,List.drop_append_of_le_length h2,eH,eH,Ky,Kx]
 simp[List.append_assoc]
theorem JI(l l':List α)(sp:List AV)(n:Nat)(hn:n=aR.w α)(h:l'.length*n<=sp.length):setAt (flat l++sp) (l.length*n) (flat l')=flat (l++l')++sp.drop (l'.length*n):=by
 subst hn
 unfold setAt
 have e0:l.length*aR.w α=(flat l).length:=(aE l).symm
 have e1:(flat l').length=l'.length*aR.w α:=aE l'
 rw[e0,List.take_left,List.drop_append,e1,eH]
 rw[List.drop_of_length_le (by omega)]
 simp
theorem mF(z:α)(k:Nat):flat (List.replicate k z)=(List.replicate k (aR.cells z)).flatten:=by unfold flat;rw[List.map_replicate]
end
theorem jX{P:Program}{S O:Type}{body:S->Option (S⊕O)}{s0:S}{kf:O->Prop}{live:List (Nat×Bool)}{b:IC}{Q:Exit->St->Prop}{E:St}(R:S->St->Prop)
 (h0:R s0 (E.df live))
 (hb:∀(J:St->Prop)(s:S)(τ:St),R s τ->ok (body s) (jy (fun t=>∀U',R t U'->J U') kf)->fN P b (nA live J Q) τ):ok (iter body s0) kf->fN P (.loop live b) Q E:=by
 intro h
 have v7:∀τ,(∃m s,R s τ/\ok (bU body m s) kf)->∃m,(∃s,R s τ/\ok (bU body m s) kf)/\∀k,k<m->¬∃s,R s τ/\ok (bU body k s) kf:=by
  rintro τ ⟨m,s,h⟩
  induction m using Nat.strongRecOn generalizing s with
  |_ m ih=>
   by_cases hk:∃k,k<m/\∃s,R s τ/\ok (bU body k s) kf
   ·obtain⟨k,hk,s',h'⟩:=hk
    exact ih k hk s' h'
   ·exact⟨m,⟨s,h⟩,fun k hk' hs=>hk ⟨k,hk',hs⟩⟩
 have hμ:∃μ:St->Nat,∀τ,(∃m s,R s τ/\ok (bU body m s) kf)->(∃s,R s τ/\ok (bU body (μ τ) s) kf)/\∀k,k<μ τ->¬∃s,R s τ/\ok (bU body k s) kf:=⟨fun τ=>Classical.epsilon fun m=>(∃s,R s τ/\ok (bU body m s) kf)/\∀k,k<m->¬∃s,R s τ/\ok (bU body k s) kf,fun τ hτ=>Classical.epsilon_spec (v7 τ hτ)⟩
 obtain⟨μ,hμ⟩:=hμ
 refine⟨fun τ=>∃m s,R s τ/\ok (bU body m s) kf,μ,⟨_,s0,h0,h⟩,?_⟩
 intro τ hτ
 obtain⟨⟨s,e,hs⟩,_⟩:=hμ τ hτ
 generalize hm:μ τ=m at hs
 cases m with
 |zero=>exact(pP hs).elim
 |succ m=>
  rw[vh]
  obtain⟨x,hx,k⟩:=pO hs
  refine hb _ s τ e ⟨x,hx,?_⟩
  cases x with
  |inr o=>exact k
  |inl t=>
   intro U' ht
   refine⟨⟨m,t,ht,k⟩,?_⟩
   have h2:=(hμ U' ⟨m,t,ht,k⟩).2
   rcases Nat.lt_or_ge m (μ U')with hlt|hge
   ·exact(h2 m hlt ⟨t,ht,k⟩).elim
   ·omega
theorem uP{α:Type}[aR α](l:List α)(sp:List AV){i r:Nat}(hi:i<l.length)(hr:r<aR.w α):(flat l++sp)[i*aR.w α+r]? =(aR.cells l[i])[r]? :=by
 have hlt:i*aR.w α+r<(flat l).length:=by
  rw[aE]
  calc i*aR.w α+r<(i+1)*aR.w α:=by rw[Nat.add_mul];omega
   _<=l.length*aR.w α:=Nat.mul_le_mul_right _ hi
 rw[List.getElem?_append_left hlt]
 have h:=jS l (aR.w α) i 1 rfl
 rw[Nat.one_mul,List.drop_eq_getElem_cons hi]at h
 have h2:(AB.sub (flat l) (i*aR.w α) (aR.w α))[r]? =(aR.cells l[i])[r]? :=by
  rw[h]
  show(flat [l[i]])[r]? =_
  unfold flat
  simp
 rw[Bd,if_pos hr]at h2
 exact h2
abbrev cm:=Option (Nat×Nat×List AV)
section
variable{α:Type}[aR α]
def JH:cm->Nat
 |none=>0
 |some (b,_,_)=>b
def Hy:cm->Nat
 |none=>0
 |some (_,cap,_)=>cap
abbrev ga(r:cm)(n:Nat):AV:=.arr (JH r) 0 n (Hy r)
def fc(s:ab)(r:cm)(l:List α):ab:=match r with
 |none=>s
 |some (b,_,sp)=>s.set b (.cells (flat l++sp))
def fH(s:ab)(r:cm)(l:List α):Prop:=match r with
 |none=>l=[]
 |some (b,cap,sp)=>s b=none/\0<cap/\l.length<=cap/\(flat l++sp).length=cap*aR.w α/\views sp=sp
theorem Qz{s:ab}{r:cm}{l:List α}(h:fH s r l):Sub s (fc s r l):=by
 cases r with
 |none=>exact Sub.refl s
 |some x=>exact(Sub.refl s).set h.1
theorem gX{s:ab}{r:cm}{l:List α}(h:fH s r l){b:Nat}{o:SO}(hb:s b=some o):fc s r l b=some o:=Qz h b o hb
theorem sL{E:St}{d:Option Nat}{K:St->Prop}{sz by':Nat}{s:ab}{r:cm}{l:List α}{z v:α}(hσ:E.s=fc s r l)(h:fH s r l)(hz:sz=aR.w α)(hr:(l.length+1)*by'<=room)
 (hK:∀s' r',Sub s s'->fH s' r' (l++[v])->K ({E with s:=fc s' r' (l++[v])}.put d (ga r' (l.length+1)))):
 dK sz by' (aR.cells z) E d K (ga r l.length) (some (1,aR.cells v)):=by
 subst hz
 have hcz:(aR.cells z).length=aR.w α:=aR.len z
 have hcv:flat [v]=aR.cells v:=by unfold flat;simp
 have hvz:views (aR.cells z)=aR.cells z:=aR.vw z
 have fresh:∀(s':ab)(b' dL:Nat),s' b'=none->l.length+1<=dL->fH s' (some (b',dL,flat (List.replicate (dL -(l.length+1)) z))) (l++[v]):=fun s' b' dL hb hc=>by
  refine⟨hb,by omega,by simpa using hc,?_,bX _⟩
  rw[List.length_append,aE,aE,List.length_replicate,List.length_append,<-Nat.add_mul]
  congr 1
  simp;omega
 cases r with
 |none=>
  obtain rfl:l=[]:=h
  show dK (aR.w α) by' (aR.cells z) E d K (.arr 0 0 0 0) _
  refine jM hcz (olds:=[]) rfl (by simp) hr fun b' dL hb' hc=>?_
  rw[List.nil_append,<-mF,<-hcv]
  rw[hσ]at hb'⊢
  have:=hK s (some (b',dL,flat (List.replicate (dL -(0+1)) z))) (Sub.refl s) (fresh s b' dL hb' hc)
  exact this
 |some x=>
  obtain⟨b,cap,sp⟩:=x
  obtain⟨h1,h2,h3,h4,h5⟩:=h
  have hs:E.s b=some (.cells (flat l++sp)):=by rw[hσ];exact gY
  show dK (aR.w α) by' (aR.cells z) E d K (.arr b 0 l.length cap) _
  by_cases hc:l.length+1<=cap
  ·refine zu hcz hs (by rw[h4,Nat.zero_add];exact Nat.le_refl _) hc ?_
   have hsp:[v].length*aR.w α<=sp.length:=by
    rw[List.length_append,aE]at h4
    have:(l.length+1)*aR.w α<=cap*aR.w α:=Nat.mul_le_mul_right _ hc
    rw[Nat.add_mul,Nat.one_mul]at this
    simp;omega
   have st:=JI l [v] sp (aR.w α) rfl hsp
   rw[Nat.zero_add,<-hcv,st]
   have e:E.s.set b (.cells (flat (l++[v])++sp.drop ([v].length*aR.w α)))=fc s (some (b,cap,sp.drop ([v].length*aR.w α))) (l++[v]):=by
    rw[hσ]
    show(s.set b _).set b _=s.set b _
    exact set_set ..
   rw[e]
   refine hK s _ (Sub.refl s) ⟨h1,h2,by simpa using hc,?_,?_⟩
   ·rw[List.length_append,aE]at h4⊢
    rw[List.length_drop,List.length_append,Nat.add_mul]
    omega
   ·unfold views at h5⊢
    rw[List.map_drop,h5]
  ·refine jM hcz (yw hs (by
    rw[Nat.zero_add,h4];exact Nat.mul_le_mul_right _ h3)) (by omega) hr fun b' dL hb' hc'=>?_
   have ho:views (AB.sub (flat l++sp) 0 (l.length*aR.w α))=flat l:=by
    have:=nI l sp (aR.w α) 0 l.length rfl (by omega)
    rw[Nat.zero_mul]at this
    rw[this,List.drop_zero,List.take_length,bX]
   rw[ho,<-mF,<-hcv,<-eH]
   rw[hσ]at hb'⊢
   have hb0:(s.set b (.cells (flat l++sp))) b'=none:=hb'
   exact hK (s.set b (.cells (flat l++sp))) (some (b',dL,flat (List.replicate (dL -(l.length+1)) z))) ((Sub.refl s).set h1) (fresh _ b' dL hb0 hc')
theorem Hz{s:ab}{r:cm}{l:List α}(h:fH s r l)(hl:0<l.length):∃b cap sp,r=some (b,cap,sp):=by
 cases r with
 |none=>rw[show l=[] from h]at hl;simp at hl
 |some x=>exact⟨_,_,_,rfl⟩
theorem Mt{s:ab}{b cap:Nat}{sp:List AV}{l l':List α}(h:fH s (some (b,cap,sp)) l)(hl:l'.length=l.length):fH s (some (b,cap,sp)) l':=by
 obtain⟨h1,h2,h3,h4,h5⟩:=h
 exact⟨h1,h2,by omega,by rw[List.length_append,aE]at h4⊢;rw[hl];exact h4,h5⟩
theorem A2{E:St}{d:Option Nat}{K:St->Prop}{sz:Nat}{s:ab}{r:cm}{l:List α}(hσ:E.s=fc s r l)(h:fH s r l)(hz:sz=aR.w α)
 (hK:K ({E with s:=s}.put d (.sl true sz l.length (flat l)))):zZ sz true E d K (ga r l.length):=by
 subst hz
 cases r with
 |none=>
  obtain rfl:l=[]:=h
  show zZ (aR.w α) true E d K (.arr 0 0 0 0)
  refine .inl ⟨rfl,rfl,rfl,?_⟩
  have e:{E with s:=s}=E:=by
   have:E.s=s:=hσ
   rw[<-this]
  rw[e]at hK
  exact hK
 |some x=>
  obtain⟨b,cap,sp⟩:=x
  obtain⟨h1,h2,h3,h4,h5⟩:=h
  have hs:E.s b=some (.cells (flat l++sp)):=by rw[hσ];exact gY
  show zZ (aR.w α) true E d K (.arr b 0 l.length cap)
  refine .inr ⟨h2,h3,fun _=>⟨rfl,?_,?_⟩,?_⟩
  ·rw[hs];show 0+cap*aR.w α<=_;rw[h4];omega
  ·rw[hs];show _=0+cap*aR.w α;rw[h4];omega
  ·have ho:views (AB.sub (flat l++sp) 0 (l.length*aR.w α))=flat l:=by
    have:=nI l sp (aR.w α) 0 l.length rfl (by omega)
    rw[Nat.zero_mul]at this
    rw[this,List.drop_zero,List.take_length,bX]
   rw[hs]
   show zZ.frzK _ _ E d K b l.length (bif decide (0+l.length*aR.w α<=(flat l++sp).length)then some (l.length,views (AB.sub (flat l++sp) 0 (l.length*aR.w α)))else none)
   rw[decide_eq_true (by rw[Nat.zero_add,h4];exact Nat.mul_le_mul_right _ h3),ho]
   have e:E.s.del b=s:=by
    rw[hσ]
    exact AZ h1
   show K ({E with s:=E.s.del b}.put d (.sl true _ l.length (flat l)))
   rw[e];exact hK
end
end Go.AB
end
