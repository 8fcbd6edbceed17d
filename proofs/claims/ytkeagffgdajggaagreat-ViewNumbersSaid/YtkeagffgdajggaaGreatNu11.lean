/- A part of the proof: Ab24, Ab25, Row, Row2. -/
import Derived.Test.YtkeagffgdajggaaGreatNu8
import Derived.Test.YtkeagffgdajggaaGreatNu10
set_option linter.unusedSimpArgs false
set_option linter.unusedVariables false
section
namespace Go.AB
open Go
def mn(G G2:Gh):Prop:=∀b,G.R b<=G2.R b/\(G.O b≠.sh->G2.O b=G.O b/\G2.R b=G.R b)
theorem FN.conv{P:Program}{f:FuncId}{args:List AV}{s:ab}{Q Q':List AV->ab->Prop}(h:FN P f args s Q)
 (k:∀rs s',Q rs s'->∀G w v,b9 G w->aP G w s'->pb G w rs v->∃rs2 s2 G2,Q' rs2 s2/\mn G G2/\b9 G2 w/\aP G2 w s2/\pb G2 w rs2 v):FN P f args s Q':=by
 intro G w vs h1 h2 h3 h4
 refine(h G w vs h1 h2 h3 h4).mono fun e w'⟨v,rs,s',G',a,hq,hg,hs,hr,hp⟩=>?_
 obtain⟨rs2,s2,G2,k1,k2,k3,k4,k5⟩:=k rs s' hq G' w' v hg hs hr
 refine⟨v,rs2,s2,G2,a,k1,k3,k4,k5,hp.os,hp.tape,hp.output,hp.drawn,hp.size,fun b hb=>Nat.le_trans (hp.mono b hb) (k2 b).1,hp.mP,hp.frame,fun b hb ho=>?_,fun b hb ho=>?_⟩
 ·obtain⟨q1,q2⟩:=hp.jJ b hb ho
  obtain⟨q3,q4⟩:=(k2 b).2 (by rw[q1];simp)
  exact⟨q3.trans q1,q4.trans q2⟩
 ·obtain⟨q1,q2⟩:=hp.pP b hb ho
  obtain⟨q3,q4⟩:=(k2 b).2 (by rw[q1];simp)
  exact⟨q3.trans q1,q4.trans q2⟩
section
variable{G:Gh}{w:World}{s:ab}{b:Nat}
theorem Tt(h:aP G w s)(hg:b9 G w){cs:List AV}(hs:s b=some (.cells cs))(r:Nat):
 mn G (G.sk b (.res 0) r)/\b9 (G.sk b (.res 0) r) w/\aP (G.sk b (.res 0) r) w (s.del b)/\(∀a v,VR w G.R a v->VR w (G.sk b (.res 0) r).R a v):=by
 obtain⟨q2,q3,c,t,q4,q5,q6⟩:=h b _ hs
 have hR:∀b',G.R b'<=(G.sk b (.res 0) r).R b':=fun b'=>by
  by_cases hb:b'=b
  ·subst hb;rw[q3];exact Nat.zero_le _
  ·simp[hb]
 have hv:∀a v,VR w G.R a v->VR w (G.sk b (.res 0) r).R a v:=fun a v h=>h.mono hR fun _ _ _=>rfl
 have same:∀b',b'≠b->(G.sk b (.res 0) r).O b'=G.O b'/\(G.sk b (.res 0) r).R b'=G.R b':=fun b' hb'=>⟨by simp[hb'],by simp[hb']⟩
 have hlt:b<w.heap.size:=hg.lt (by rw[q2];simp)
 refine⟨fun b'=>⟨hR b',fun hb'=>same b' fun e=>by subst e;exact hb' q2⟩,⟨fun b' hb'=>?_,fun b' hb'=>?_⟩,?_,hv⟩
 ·have:b'≠b:=by omega
  rw[(same b' this).1,hg.jM b' hb']
 ·have:b'≠b:=by omega
  rw[(same b' this).2,hg.jU b' hb']
 ·intro b' o hb'
  unfold ab.del at hb'
  split at hb'
  ·cases hb'
  ·rename_i hne
   obtain⟨r1,r2,r3⟩:=h b' o hb'
   refine⟨(same b' hne).1.trans r1,(same b' hne).2.trans r2,?_⟩
   cases o with
   |cells cs'=>
    obtain⟨c',t',r4,r5,r6⟩:=r3
    exact⟨c',t',r4,r5.mono hv (fun b'' j ns=>by
     have:b''≠b:=fun e=>by subst e;rw[q2]at ns;cases ns
     exact⟨(same b'' this).1.trans ns,(same b'' this).2,rfl⟩),r6⟩
   |map es=>
    obtain⟨iu,clock,r4,r5,r6⟩:=r3
    exact⟨iu,clock,r4,r5,fun j x y hx hy=>⟨hv _ _ (r6 j x y hx hy).1,hv _ _ (r6 j x y hx hy).2⟩⟩
theorem Z4(h:aP G w s)(hg:b9 G w){n cap sz:Nat}{cs sp:List AV}{v:Value}(hs:s b=some (.cells (cs++sp)))(hc:0<cap)(hn:n<=cap)(hl:(cs++sp).length=cap*sz)(hl2:cs.length=n*sz)(hvw:views (cs++sp)=cs++sp)
 (hr:pb G w [.arr b 0 n cap] v):∃G2,mn G G2/\b9 G2 w/\aP G2 w (s.del b)/\pb G2 w [.us sz n cs] v:=by
 obtain⟨k1,k2,k3,k4⟩:=Tt h hg hs 0
 obtain⟨q2,q3,c,t,q4,q5,q6⟩:=h b _ hs
 refine⟨_,k1,k2,k3,.inr ⟨b,cap,c,t,sp,hc,hn,VR.sJ hr.1 hc,by simp,by simp,q4,by rw[q5.1,hl],hl2,hl,fun j x u hx hu=>k4 _ _ (q5.2 j x u hx hu).1,q6.flat hvw,hvw⟩⟩
theorem XD{sz:Nat}{v:Value}(hr:pb G w [.arr b 0 0 0] v):pb G w [.us sz 0 []] v:=by
 rcases VR.cd hr.1 with e|⟨_,_,e⟩
 ·exact .inl ⟨rfl,rfl,.inr ⟨b,0,e⟩⟩
 ·exact .inl ⟨rfl,rfl,.inl e⟩
theorem Td(h:aP G w s)(hg:b9 G w){n cap sz:Nat}{cs sp:List AV}{v:Value}(hs:s b=some (.cells (cs++sp)))(hc:0<cap)(hn:n<=cap)(hl:(cs++sp).length=cap*sz)(hl2:cs.length=n*sz)(hvw:views cs=cs)
 (hr:pb G w [.arr b 0 n cap] v):∃G2,mn G G2/\b9 G2 w/\aP G2 w (s.del b)/\pb G2 w [.sl true sz n cs] v:=by
 obtain⟨k1,k2,k3,k4⟩:=Tt h hg hs (n*sz)
 obtain⟨q2,q3,c,t,q4,q5,q6⟩:=h b _ hs
 have e:=VR.sJ hr.1 hc
 refine⟨_,k1,k2,k3,?_,?_⟩
 ·rw[e]
  refine .sl true sz n cs b 0 cap (fun j=>c.getD j undef) (q6.left.flat hvw) hl2 (by simp[hl2]) hn (fun j x hj=>?_) (fun j x hj=>?_)
  all_goals
   have hj':(cs++sp)[j]? =some x:=by rw[List.getElem?_append_left (List.getElem?_eq_some_iff.1 hj).1];exact hj
   have hlt:j<c.size:=by rw[q5.1];exact(List.getElem?_eq_some_iff.1 hj').1
   have kg:c[j]? =some (c.getD j undef):=by simp[Array.getD_eq_getD_getElem?,hlt]
  ·rw[Nat.zero_add,cell_of_row w q4,kg]
  ·exact k4 _ _ (q5.2 j x _ hj' kg).1
 ·intro base m' dn hv _
  rw[e]at hv
  injection hv with e1 e2 e3
  subst e3
  exact⟨b,0,c,t,(0,0),e1.symm,by simp,by simp,q4,by rw[q5.1,hl,Nat.zero_add],fun j _ hj=>by simp at hj,Nat.le_refl _,rfl,.inl rfl,fun j y _ hy=>by
   have hlt:j<(cs++sp).length:=by rw[<-q5.1];exact(Array.getElem?_eq_some_iff.1 hy).1
   exact rZ (q6 _ (List.getElem_mem hlt)) (q5.2 j _ y (List.getElem?_eq_getElem hlt) hy).1⟩
theorem PN{sz:Nat}{v:Value}(hr:pb G w [.arr b 0 0 0] v):pb G w [.sl true sz 0 []] v:=by
 rcases VR.cd hr.1 with e|⟨_,_,e⟩
 ·refine⟨?_,?_⟩
  ·rw[e];exact .sl true sz 0 [] b 0 0 (fun _=>undef) Fl.nil (by simp) (by simp) (Nat.le_refl _) (fun j c hj=>by simp at hj) (fun j c hj=>by simp at hj)
  ·intro base m' dn hv hc;rw[e]at hv;injection hv with _ e2 e3;omega
 ·refine⟨by rw[e];exact .slnil _ _,?_⟩
  intro base m' dn hv hc;rw[e]at hv;injection hv with _ e2 e3;omega
end
theorem j6{s:ab}{b:Nat}{o:SO}(h:s b=none):(s.set b o).del b=s:=by
 funext i
 unfold ab.set ab.del
 by_cases e:i=b
 ·subst e;simp[h]
 ·simp[e]
@[go_sem]theorem bP{s:ab}{b:Nat}{o:SO}:(s.set b o) b=some o:=by unfold ab.set;simp
def Sub(s2 s:ab):Prop:=∀b o,s2 b=some o->s b=some o
theorem Sub.refl(s:ab):Sub s s:=fun _ _ h=>h
theorem Sub.set{s s2:ab}(h:Sub s2 s){b:Nat}{o:SO}(hb:s b=none):Sub s2 (s.set b o):=fun b' o' h'=>by
 have:=h b' o' h'
 unfold ab.set
 split
 ·rename_i e;subst e;rw[hb]at this;cases this
 ·exact this
theorem Sub.aiR{s s2:ab}(h:Sub s2 s){b:Nat}{o:SO}:Sub (s2.set b o) (s.set b o):=fun b' o' h'=>by
 unfold ab.set at h'⊢
 split
 ·rename_i e;rw[if_pos e]at h';exact h'
 ·rename_i e;rw[if_neg e]at h';exact h b' o' h'
theorem Sub.del{s s2:ab}(h:Sub s2 s){b:Nat}(hb:s2 b=none):Sub s2 (s.del b):=fun b' o' h'=>by
 unfold ab.del
 split
 ·rename_i e;subst e;rw[hb]at h';cases h'
 ·exact h b' o' h'
theorem Sub.none{s s2:ab}(h:Sub s2 s){b:Nat}(hb:s b=none):s2 b=none:=by
 cases h2:s2 b with
 |none=>rfl
 |some o=>have:=h b o h2;rw[hb]at this;cases this
theorem aP.sub{G:Gh}{w:World}{s s2:ab}(h:aP G w s)(hs:Sub s2 s):aP G w s2:=fun b o hb=>h b o (hs b o hb)
theorem mn.refl(G:Gh):mn G G:=fun _=>⟨Nat.le_refl _,fun _=>⟨rfl,rfl⟩⟩
theorem FN.lr{P:Program}{f:FuncId}{args:List AV}{s:ab}{Q:List AV->ab->Prop}(h:FN P f args s fun rs s'=>∃s2,Sub s2 s'/\Q rs s2):FN P f args s Q:=h.conv fun rs _⟨s2,h1,h2⟩ G _ _ hg hs hr=>⟨rs,s2,G,h2,mn.refl G,hg,hs.sub h1,hr⟩
theorem FN.HR{P:Program}{f:FuncId}{args:List AV}{s s2:ab}{Q:List AV->ab->Prop}{sz:Nat}{cs:List AV}{n:Nat}(hl2:cs.length=n*sz)(hvw:views cs=cs)(hq:Q [.sl true sz n cs] s2)
 (h:FN P f args s fun rs s'=>(∃b cap sp,rs=[.arr b 0 n cap]/\s' b=some (.cells (cs++sp))/\0<cap/\n<=cap/\(cs++sp).length=cap*sz/\Sub s2 (s'.del b))\/(n=0/\cs=[]/\Sub s2 s'/\∃b,rs=[.arr b 0 0 0])):FN P f args s Q:=by
 refine h.conv fun rs s' hq' G w v hg hs hr=>?_
 rcases hq' with⟨b,cap,sp,rfl,hb,hc,hn,hl,eD⟩|⟨rfl,rfl,eD,b,rfl⟩
 ·obtain⟨G2,k1,k2,k3,k4⟩:=Td hs hg hb hc hn hl hl2 hvw hr
  exact⟨_,_,G2,hq,k1,k2,k3.sub eD,k4⟩
 ·exact⟨_,_,G,hq,mn.refl G,hg,hs.sub eD,PN hr⟩
theorem FN.Yc{P:Program}{f:FuncId}{args:List AV}{s s2:ab}{Q:List AV->ab->Prop}{sz:Nat}{cs:List AV}{n:Nat}(hl2:cs.length=n*sz)(hq:Q [.us sz n cs] s2)
 (h:FN P f args s fun rs s'=>(∃b cap sp,rs=[.arr b 0 n cap]/\s' b=some (.cells (cs++sp))/\0<cap/\n<=cap/\(cs++sp).length=cap*sz/\views (cs++sp)=cs++sp/\Sub s2 (s'.del b))\/(n=0/\cs=[]/\Sub s2 s'/\∃b,rs=[.arr b 0 0 0])):FN P f args s Q:=by
 refine h.conv fun rs s' hq' G w v hg hs hr=>?_
 rcases hq' with⟨b,cap,sp,rfl,hb,hc,hn,hl,hvw,eD⟩|⟨rfl,rfl,eD,b,rfl⟩
 ·obtain⟨G2,k1,k2,k3,k4⟩:=Z4 hs hg hb hc hn hl hl2 hvw hr
  exact⟨_,_,G2,hq,k1,k2,k3.sub eD,k4⟩
 ·exact⟨_,_,G,hq,mn.refl G,hg,hs.sub eD,XD hr⟩
def Cy:AV->Bool
 |.int _ _=>true
 |.bool _=>true
 |.str _=>true
 |_=>false
theorem Cz{w w':World}{R R':Nat->Nat}{a:AV}{v:Value}(h:Cy a=true)(hv:VR w R a v):VR w' R' a v:=by
 cases a<;>first|(cases h;done)|skip
 ·rw[VR.fZ hv];exact .bool _
 ·rw[VR.ct hv];exact .int _ _
 ·rw[VR.eW hv];exact .str _
theorem FN.borrow{P:Program}{f:FuncId}{args tv:List AV}{s:ab}{Q:List AV->ab->Prop}(b k:Nat)
 (h:FN P f tv xd fun rs _=>rs.all Cy=true/\Q rs s)
 (ha:∀(G:Gh)(w:World)(vs:Array Value),aP G w s->kH w G.R args vs->kH w (fun i=>if i=b/\b<w.heap.size then k else G.R i) tv vs):FN P f args s Q:=by
 intro G w vs h1 h2 h3 h4
 let G1:Gh:=⟨fun i=>if i=b/\b<w.heap.size then k else G.R i,fun i=>if G.O i=.none then .none else .frame⟩
 have hO1:∀i,G1.O i=.frame\/G1.O i=.none:=fun i=>by
  show(if G.O i=.none then cS.none else cS.frame)=_\/_
  by_cases e:G.O i=.none<;>simp[e,G1]
 have hg1:b9 G1 w:=⟨fun i hi=>by simp[G1,h1.jM i hi],fun i hi=>by
  have:¬(i=b/\b<w.heap.size):=by omega
  show(if i=b/\b<w.heap.size then k else G.R i)=0
  rw[if_neg this,h1.jU i hi]⟩
 refine(h G1 w vs hg1 (fun i=>(hO1 i).elim (fun e=>.inr (.inl e)) .inl) (fun i o hi=>by cases hi) (ha G w vs h3 h4)).mono fun e w'⟨v,rs,s',G',he,⟨hpl,hq⟩,_,_,hr,hp⟩=>?_
 have same:∀i,i<w.heap.size->w'.heap[i]? =w.heap[i]? :=fun i hi=>hp.frame i hi (hO1 i)
 have dy:∀i j,i<w.heap.size->w'.cell? ⟨i,j,none⟩=w.cell? ⟨i,j,none⟩:=fun i j hi=>World.cell?_of_block (same i hi)
 have hlt:∀i,G.O i≠.none->i<w.heap.size:=fun i hi=>h1.lt hi
 have hR0:∀i j,j<G.R i->i<w.heap.size:=fun i j hj=>by
  rcases Nat.lt_or_ge i w.heap.size with h|h
  ·exact h
  ·rw[h1.jU i h]at hj;omega
 have bw:ax G w G w':=⟨hp.os,hp.tape,hp.output,hp.drawn,hp.size,fun _ _=>Nat.le_refl _,fun i j hi _=>dy i j hi,fun i hi _=>same i hi,fun i _ ho=>⟨ho,rfl⟩,fun i _ ho=>⟨ho,rfl⟩⟩
 have hg':b9 G w':=⟨fun i hi=>h1.jM i (Nat.le_trans hp.size hi),fun i hi=>h1.jU i (Nat.le_trans hp.size hi)⟩
 refine⟨v,rs,s,G,he,hq,hg',h3.mono h1 bw (fun i hi=>⟨hi,rfl,same i (hlt i (by rw[hi];simp))⟩) (fun i c j _ hc=>⟨hc,rfl,same c (hlt c (by rw[hc];simp))⟩),?_,bw⟩
 match rs,hpl,hr with
 |[],_,hr=>
  obtain⟨ys,q1,q2,q3⟩:=hr
  exact⟨ys,q1,q2,fun j x y hx hy=>by simp at hx⟩
 |[a],hpl,hr=>
  have hpa:Cy a=true:=by simpa using hpl
  have hr':VR w' G'.R a v/\dm G' w' (.res 0) a v:=by cases a<;>first|exact hr|(cases hpa;done)
  show X4 G w' a v
  have hv:=Cz (w':=w') (R':=G.R) hpa hr'.1
  cases a<;>first|exact⟨hv,trivial⟩|(cases hpa;done)
 |a1::a2::rr,hpl,hr=>
  obtain⟨ys,q1,q2,q3⟩:=hr
  refine⟨ys,q1,q2,fun j x y hx hy=>?_⟩
  have hpa:Cy x=true:=List.all_eq_true.1 hpl x (List.mem_of_getElem? hx)
  refine⟨Cz hpa (q3 j x y hx hy).1,?_⟩
  cases x<;>first|trivial|(cases hpa;done)
theorem zY{G:Gh}{w:World}{s:ab}{b n cap sz:Nat}{cs:List AV}{v:Value}(h:aP G w s)(hlen:cs.length=n*sz)(hn:n<=cap)(hvw:views cs=cs)(hs:cs≠[]->∃sp,s b=some (.cells (cs++sp)))(hv:VR w G.R (.arr b 0 n cap) v)(hsz:0<sz):
 VR w (fun i=>if i=b/\b<w.heap.size then n*sz else G.R i) (.sl false sz n cs) v:=by
 by_cases hcs:cs=[]
 ·subst hcs
  have hn0:n=0:=by
   rcases Nat.mul_eq_zero.1 hlen.symm with h|h
   ·exact h
   ·omega
  subst hn0
  rcases VR.cd hv with e|⟨_,_,e⟩
  ·rw[e];exact .sl false sz 0 [] b 0 cap (fun _=>undef) Fl.nil (by simp) (Nat.zero_le _) (Nat.zero_le _) (fun j c hj=>by simp at hj) (fun j c hj=>by simp at hj)
  ·rw[e];exact .slnil _ _
 ·obtain⟨sp,hs⟩:=hs hcs
  obtain⟨q2,q3,c,t,q4,q5,q6⟩:=h b _ hs
  have hb:b<w.heap.size:=by
   rcases Nat.lt_or_ge b w.heap.size with h|h
   ·exact h
   ·rw[Array.getElem?_eq_none h]at q4;cases q4
  have hn0:0<n:=by
   rcases Nat.eq_zero_or_pos n with h|h
   ·subst h;rw[Nat.zero_mul]at hlen;exact absurd (List.eq_nil_of_length_eq_zero hlen) hcs
   ·exact h
  have e:=VR.sJ hv (by omega)
  rw[e]
  have ahf:∀a u,VR w G.R a u->VR w (fun i=>if i=b/\b<w.heap.size then n*sz else G.R i) a u:=fun a u h=>h.mono (fun i=>by
   show G.R i<=if i=b/\b<w.heap.size then n*sz else G.R i
   split
   ·rename_i e;rw[e.1,q3];exact Nat.zero_le _
   ·exact Nat.le_refl _) fun _ _ _=>rfl
  refine .sl false sz n cs b 0 cap (fun j=>c.getD j undef) (q6.left.flat hvw) hlen (by simp[hb,hlen]) hn (fun j x hj=>?_) (fun j x hj=>?_)
  all_goals
   have hj':(cs++sp)[j]? =some x:=by rw[List.getElem?_append_left (List.getElem?_eq_some_iff.1 hj).1];exact hj
   have hlt:j<c.size:=by rw[q5.1];exact(List.getElem?_eq_some_iff.1 hj').1
   have kg:c[j]? =some (c.getD j undef):=by simp[Array.getD_eq_getD_getElem?,hlt]
  ·rw[Nat.zero_add,cell_of_row w q4,kg]
  ·exact ahf _ _ (q5.2 j x _ hj' kg).1
end Go.AB
end
section
namespace Go.AB
open Go
theorem FN.adQ{P:Program}{f:FuncId}{args:List AV}{s:ab}{Q:List AV->ab->Prop}{sz n:Nat}{cs:List AV}(hpl:cs.all Cy=true)(hnu:∀x,cs[0]? ≠some (.int .u8 x))(hsz:0<sz)
 (h:FE P f args xd [.sl true sz n cs] xd)(hq:Q [.us sz n cs] s):FN P f args s Q:=by
 intro G w vs h1 h2 h3 h4
 let G1:Gh:=⟨G.R,fun i=>if G.O i=.none then .none else .frame⟩
 have hO1:∀i,G1.O i=.frame\/G1.O i=.none:=fun i=>by
  show(if G.O i=.none then cS.none else cS.frame)=_\/_
  by_cases e:G.O i=.none<;>simp[e,G1]
 have hg1:b9 G1 w:=⟨fun i hi=>by simp[G1,h1.jM i hi],fun i hi=>h1.jU i hi⟩
 refine(h G1 w vs hg1 (fun i=>(hO1 i).elim (fun e=>.inr (.inl e)) .inl) (fun i o hi=>by cases hi) h4).mono fun e w'⟨v,rs,s',G',he,⟨hrs,_⟩,hg',_,hr,hp⟩=>?_
 subst hrs
 have hr':VR w' G'.R (.sl true sz n cs) v/\dm G' w' (.res 0) (.sl true sz n cs) v:=hr
 have same:∀i,i<w.heap.size->w'.heap[i]? =w.heap[i]? :=fun i hi=>hp.frame i hi (hO1 i)
 have dy:∀i j,i<w.heap.size->w'.cell? ⟨i,j,none⟩=w.cell? ⟨i,j,none⟩:=fun i j hi=>World.cell?_of_block (same i hi)
 have hlt:∀i,G.O i≠.none->i<w.heap.size:=fun i hi=>h1.lt hi
 have ez:∀i,i<w.heap.size->G'.O i≠.res 0/\G'.R i=G.R i:=fun i hi=>by
  rcases hO1 i with e|e
  ·obtain⟨q1,q2⟩:=hp.jJ i hi e;exact⟨by rw[q1];simp,q2⟩
  ·obtain⟨q1,q2⟩:=hp.pP i hi e;exact⟨by rw[q1];simp,q2⟩
 have fin:∀(b:Nat),w.heap.size<=b->b<w'.heap.size->∀G2:Gh,G2=⟨fun i=>if i=b then 0 else G'.R i,fun i=>if i<w.heap.size then G.O i else if i=b then .res 0 else .none⟩->
  b9 G2 w'/\aP G2 w' s/\ax G w G2 w':=by
  intro b hb1 hb2 G2 hG2
  subst hG2
  have bw:ax G w ⟨fun i=>if i=b then 0 else G'.R i,fun i=>if i<w.heap.size then G.O i else if i=b then .res 0 else .none⟩ w':=by
   refine⟨hp.os,hp.tape,hp.output,hp.drawn,hp.size,fun i hi=>?_,fun i j hi _=>dy i j hi,fun i hi _=>same i hi,fun i hi ho=>?_,fun i hi ho=>?_⟩
   ·show G.R i<=if i=b then 0 else G'.R i
    rw[if_neg (by omega),(ez i hi).2];exact Nat.le_refl _
   ·refine⟨?_,?_⟩
    ·show(if i<w.heap.size then G.O i else _)=_
     rw[if_pos hi];exact ho
    ·show(if i=b then 0 else G'.R i)=_
     rw[if_neg (by omega),(ez i hi).2]
   ·refine⟨?_,?_⟩
    ·show(if i<w.heap.size then G.O i else _)=_
     rw[if_pos hi];exact ho
    ·show(if i=b then 0 else G'.R i)=_
     rw[if_neg (by omega),(ez i hi).2]
  refine⟨⟨fun i hi=>?_,fun i hi=>?_⟩,?_,bw⟩
  ·have:=hp.size
   show(if i<w.heap.size then G.O i else if i=b then .res 0 else .none)=_
   rw[if_neg (by omega),if_neg (by omega)]
  ·show(if i=b then 0 else G'.R i)=0
   rw[if_neg (by omega),hg'.jU i hi]
  ·have hk:∀i,G.O i≠.none->(if i<w.heap.size then G.O i else if i=b then cS.res 0 else cS.none)=G.O i/\(if i=b then 0 else G'.R i)=G.R i/\w'.heap[i]? =w.heap[i]? :=fun i hi=>by
    have hi':=hlt i hi
    exact⟨if_pos hi',by rw[if_neg (by omega),(ez i hi').2],same i hi'⟩
   exact h3.mono h1 bw (fun i hi=>by
    obtain⟨k1,k2,k3⟩:=hk i (by rw[hi];simp)
    exact⟨k1.trans hi,k2,k3⟩) (fun i c j _ hc=>by
    obtain⟨k1,k2,k3⟩:=hk c (by rw[hc];simp)
    exact⟨k1.trans hc,k2,k3⟩)
 have none_:UsR ⟨G.R,G.O⟩ w' (.res 0) sz n cs v->∃v rs s' G'',e=.returned v/\Q rs s'/\b9 G'' w'/\aP G'' w' s'/\pb G'' w' rs v/\ax G w G'' w':=by
  intro hu
  have bw:ax G w G w':=⟨hp.os,hp.tape,hp.output,hp.drawn,hp.size,fun _ _=>Nat.le_refl _,fun i j hi _=>dy i j hi,fun i hi _=>same i hi,fun i _ ho=>⟨ho,rfl⟩,fun i _ ho=>⟨ho,rfl⟩⟩
  refine⟨v,_,s,G,he,hq,⟨fun i hi=>h1.jM i (Nat.le_trans hp.size hi),fun i hi=>h1.jU i (Nat.le_trans hp.size hi)⟩,h3.mono h1 bw (fun i hi=>⟨hi,rfl,same i (hlt i (by rw[hi];simp))⟩) (fun i c j _ hc=>⟨hc,rfl,same c (hlt c (by rw[hc];simp))⟩),hu,bw⟩
 rcases VR.hZ hr'.1 with⟨e0,rfl,rfl⟩|⟨b,off,cap,e1,hl,hR,gZ,hat⟩
 ·exact none_ (.inl ⟨rfl,rfl,.inl e0.own⟩)
 ·by_cases hc0:cap=0
  ·subst hc0
   have hn:n=0:=by omega
   subst hn
   have hcs:cs=[]:=List.eq_nil_of_length_eq_zero (by rw[hl];simp)
   subst hcs
   exact none_ (.inl ⟨rfl,rfl,.inr ⟨b,off,e1⟩⟩)
  ·obtain⟨b',ZV,c,t,fz,q1,q2,q3,q4,q5,_,_,rfl,hz,BV⟩:=hr'.2 _ _ _ e1 (by omega)
   injection q1 with q1;injection q1 with q1 q1' _
   subst q1;subst q1'
   have hz:fz=(0,0):=by
    rcases hz with hz|⟨hn0,x,hz⟩
    ·exact hz
    ·obtain⟨u,u1,u2,_⟩:=hat
     have hlt:0<cs.length:=by rw[hl];exact Nat.mul_pos hn0 hsz
     have k1:=u1 0 _ (List.getElem?_eq_getElem hlt)
     rw[Nat.zero_add,cell_of_row w' q4,hz]at k1
     injection k1 with k1
     have k2:=u2 0 _ (List.getElem?_eq_getElem hlt)
     rw[<-k1]at k2
     have hp0:=List.all_eq_true.1 hpl _ (List.getElem_mem hlt)
     cases hc:cs[0]with
     |int k y=>
      rw[hc]at k2
      have:=VR.ct k2
      injection this with t1 t2
      exact absurd (by rw[List.getElem?_eq_getElem hlt,hc,<-t1]) (hnu y)
     |bool y=>rw[hc]at k2;have:=VR.fZ k2;cases this
     |str y=>rw[hc]at k2;have:=VR.eW k2;cases this
     |_=>rw[hc]at hp0;cases hp0
   subst hz
   have hb1:w.heap.size<=b:=by
    rcases Nat.lt_or_ge b w.heap.size with hb|hb
    ·exact absurd q2 (ez b hb).1
    ·exact hb
   have hb2:b<w'.heap.size:=(Array.getElem?_eq_some_iff.1 q4).1
   obtain⟨f1,f2,f3⟩:=fin b hb1 hb2 _ rfl
   refine⟨v,_,s,_,he,hq,f1,f2,?_,f3⟩
   obtain⟨u,u1,u2,u3⟩:=hat
   have hle:cs.length<=cap*sz:=by rw[hl];exact Nat.mul_le_mul_right _ gZ
   refine .inr ⟨b,cap,c,t,List.replicate (cap*sz -cs.length) .one,by omega,gZ,e1,?_,?_,q4,by rw[q5,Nat.zero_add],hl,by rw[List.length_append,List.length_replicate];omega,fun j x y hx hy=>?_,fun x hx=>?_,?_⟩
   ·show(if b<w.heap.size then G.O b else if b=b then .res 0 else .none)=_
    rw[if_neg (by omega),if_pos rfl]
   ·show(if b=b then 0 else G'.R b)=0
    rw[if_pos rfl]
   ·rcases Nat.lt_or_ge j cs.length with hj|hj
    ·rw[List.getElem?_append_left hj]at hx
     have k1:=u1 j x hx
     rw[Nat.zero_add,cell_of_row w' q4,hy]at k1
     injection k1 with k1
     rw[k1]
     exact Cz (List.all_eq_true.1 hpl x (List.mem_of_getElem? hx)) (u2 j x hx)
    ·rw[List.getElem?_append_right hj,List.getElem?_replicate]at hx
     split at hx
     ·injection hx with hx;rw[<-hx];exact .one _ (BV j y (by rw[<-hl];omega) hy)
     ·cases hx
   ·rcases List.mem_append.1 hx with hx|hx
    ·exact u3 x hx
    ·rw[(List.mem_replicate.1 hx).2];rfl
   ·unfold views
    rw[List.map_append,List.map_replicate]
    congr 1
    have:∀l:List AV,l.all Cy=true->l.map view=l:=fun l h=>by
     induction l with
     |nil=>rfl
     |cons a l ih=>
      rw[List.all_cons,Bool.and_eq_true]at h
      rw[List.map_cons,ih h.2]
      cases a<;>first|rfl|(cases h.1;done)
    exact this cs hpl
end Go.AB
end
section
namespace Go.AB
open Go
def lf:Nat:=18446744073709551616
@[go_sem]theorem ajG(a b:Nat):Nat.beq a b=(a==b):=Bool.eq_iff_iff.2 (by rw[Nat.beq_eq];simp)
theorem QB{A C:Prop}{b:Bool}(h:b=true)(k:A->C):A->b=true/\C:=fun x=>⟨h,k x⟩
theorem adA{A C:Prop}{a b:Nat}(h:a=b)(k:A->C):A->a=b/\C:=fun x=>⟨h,k x⟩
theorem jZ{P:Program}{f:FuncId}{as1 as2 rs:List AV}{s s':ab}(e:as1=as2)(h:FE P f as1 s rs s'):FE P f as2 s rs s':=e▸h
def Ru(E:St)(d:Option Nat)(K:St->Prop)(b off:Nat):Option SO->Prop
 |some (.cells cs)=>si off cs fun cs' a=>K ({E with s:=E.s.set b (.cells cs')}.put d a)
 |_=>False
@[go_sem]theorem adn(E:St)(d:Option Nat)(K:St->Prop)(b off:Nat):pL E d K (.ref b off)=Ru E d K b off (E.s b):=by
  show(match E.s b with|some (.cells cs)=>si off cs fun cs' a=>K ({E with s:=E.s.set b (.cells cs')}.put d a)|_=>False)=_
  unfold Ru
  rcases E.s b with _|⟨_|_⟩<;>rfl
@[go_sem]theorem ZE(E:St)(d:Option Nat)(K:St->Prop)(b off:Nat)(cs:List AV):Ru E d K b off (some (.cells cs))=si off cs fun cs' a=>K ({E with s:=E.s.set b (.cells cs')}.put d a):=rfl
def WO(E:St)(d:Option Nat)(K:St->Prop)(i off:Nat):AV->Prop
 |.loc cs=>d≠some i/\qy off cs fun cs' a=>K ((E.put (some i) (.loc cs')).put d a)
 |_=>False
@[go_sem]theorem ae9(E:St)(d:Option Nat)(K:St->Prop)(i off:Nat):pL E d K (.lp i off)=WO E d K i off (look E.e i):=by
  show(match look E.e i with|.loc cs=>d≠some i/\qy off cs fun cs' a=>K ((E.put (some i) (.loc cs')).put d a)|_=>False)=_
  cases look E.e i<;>rfl
@[go_sem]theorem adm(E:St)(d:Nat)(K:St->Prop)(i off:Nat)(cs:List AV):WO E (some d) K i off (.loc cs)=(Nat.beq d i=false/\qy off cs fun cs' a=>K ((E.put (some i) (.loc cs')).put (some d) a)):=by
  show(some d≠some i/\_)=_
  have e:(some d≠some i)=(Nat.beq d i=false):=propext ⟨fun h=>by
   cases hb:Nat.beq d i with
   |false=>rfl
   |true=>exact(h (by rw[Nat.eq_of_beq_eq_true hb])).elim,fun h e=>by
   injection e with e
   subst e
   rw[Nat.beq_refl]at h
   cases h⟩
  rw[e]
@[go_sem]theorem aew(o:Bool)(sz n:Nat)(ds cs:List AV)(k:List AV->AV->Prop):si 0 (.sl o sz n ds::cs) k=k (.sl false sz n ds::cs) (.sl o sz n ds):=rfl
@[go_sem]theorem aey(o:Bool)(sz n:Nat)(ds cs:List AV)(k:List AV->AV->Prop):qy 0 (.sl o sz n ds::cs) k=k (.sl false sz n ds::cs) (.sl o sz n ds):=rfl
@[go_sem]theorem aex(a:AV)(n:Nat)(cs:List AV)(k:List AV->AV->Prop):qy (n+1) (a::cs) k=qy n cs fun cs' x=>k (a::cs') x:=by
  have e:∀x,setAt (a::cs) (n+1) [x]=a::setAt cs n [x]:=fun x=>by
   unfold setAt
   rw[List.take_succ_cons,show n+1+[x].length=(n+[x].length)+1 by simp[Nat.add_right_comm],List.drop_succ_cons]
   rfl
  unfold qy
  rw[List.getElem?_cons_succ]
  cases h:cs[n]? with
  |none=>rfl
  |some b=>cases b<;>first|rfl|(simp only[e])
def ixI:AV->Option Int
 |.int _ n=>some n
 |_=>none
@[go_sem]theorem ahB(f:IX->AV)(d:Int):IB f none d=some d:=rfl
@[go_sem]theorem ahC(f:IX->AV)(x:IX)(d:Int):IB f (some x) d=ixI (f x):=rfl
@[go_sem]theorem ajA(k:IntKind)(n:Int):ixI (.int k n)=some n:=rfl
attribute[go_sem] Option.isSome_some Bool.cond_true
@[go_sem]theorem aa2(off cap sz:Nat):iY off cap 0 sz=off:=by
  unfold iY
  cases(cap==0)<;>simp
@[go_sem]theorem toNat_zero:(0:Int).toNat=0:=rfl
attribute[go_sem] Int.toNat_natCast Int.sub_zero Nat.sub_zero
@[go_sem]theorem toNat_sub'(a b:Nat):((a:Int) -(b:Int)).toNat=a -b:=by omega
section
variable{E:St}{d:Option Nat}{K:St->Prop}{sz by':Nat}{zero:List AV}{b off n cap m:Nat}{cs ds:List AV}
theorem wy{s:ab}(hs:s b=some (.cells cs))(hf:off+m*sz<=cs.length):ur s sz (.arr b off m cap)=some (m,views (AB.sub cs off (m*sz))):=by
 show(bif m==0 then some (0,[])else j5 m sz off (s b))=_
 by_cases hm:m=0
 ·subst hm;simp[AB.sub,views]
 ·rw[show(m==0)=false by simpa using hm,hs]
  show(bif decide (off+m*sz<=cs.length)then some (m,views (AB.sub cs off (m*sz)))else none)=_
  rw[decide_eq_true hf];rfl
theorem gb(s:ab)(ow:Bool):ur s sz (.sl ow sz m ds)=some (m,views ds):=by unfold ur;simp
theorem UT(s:ab):ur s sz (.arr b off 0 cap)=some (0,[]):=rfl
theorem rY{s:ab}(hs:s b=some (.cells cs))(hf:off+n*sz<=cs.length):pQ s sz b off n=some (views (AB.sub cs off (n*sz))):=by
 unfold pQ
 by_cases hm:n=0
 ·subst hm;simp[AB.sub,views]
 ·rw[show(n==0)=false by simpa using hm,hs]
  show((bif decide (off+n*sz<=cs.length)then some (n,views (AB.sub cs off (n*sz)))else none):Option (Nat×List AV)).map Prod.snd=_
  rw[decide_eq_true hf];rfl
theorem nh(hz:zero.length=sz)(hs:E.s b=some (.cells cs))(hf:off+cap*sz<=cs.length)(hm:n+m<=cap)
 (hk:K ({E with s:=E.s.set b (.cells (setAt cs (off+n*sz) ds))}.put d (.arr b off (n+m) cap))):eN sz by' zero E d K (.arr b off n cap) (some (m,ds)):=by
 have hn:off+n*sz<=cs.length:=Nat.le_trans (Nat.add_le_add_left (Nat.mul_le_mul_right _ (by omega)) _) hf
 show TH sz by' zero E d K b off n cap m ds (pQ E.s sz b off n)
 rw[rY hs hn]
 refine⟨hz,fun _=>.inr ⟨by rw[hs];exact hf,?_⟩,fun h=>by omega⟩
 rw[hs];exact hk
theorem fS(hz:zero.length=sz){olds:List AV}(ho:pQ E.s sz b off n=some olds)(hm:cap<n+m)(hr:(n+m)*by'<=room)
 (hk:∀b' dn,E.s b'=none->n+m<=dn->K ({E with s:=E.s.set b' (.cells (olds++ds++(List.replicate (dn -(n+m)) zero).flatten))}.put d (.arr b' 0 (n+m) dn))):eN sz by' zero E d K (.arr b off n cap) (some (m,ds)):=by
 show TH sz by' zero E d K b off n cap m ds (pQ E.s sz b off n)
 rw[ho]
 exact⟨hz,fun h=>by omega,fun _=>⟨hr,hk⟩⟩
theorem xG(hz:zero.length=sz){olds:List AV}(ho:pQ E.s sz b off n=some olds)(hm:n<=cap)(hk:K (E.put d (.arr b off n cap))):eN sz by' zero E d K (.arr b off n cap) (some (0,ds)):=by
 show TH sz by' zero E d K b off n cap 0 ds (pQ E.s sz b off n)
 rw[ho]
 exact⟨hz,fun _=>.inl ⟨rfl,hk⟩,fun h=>by omega⟩
theorem mr(hs:E.s b=some (.cells cs))(hf:off+n*sz<=cs.length)
 (hk:K ({E with s:=E.s.set b (.cells (setAt cs off (ds.take (min m n*sz))))}.put d (.int .i64 (min m n:Nat)))):yQ sz E d K (.arr b off n cap) (some (m,ds)):=by
 refine .inr ⟨by rw[hs];exact hf,?_⟩
 rw[hs];exact hk
theorem yO(hz:views zero=zero)(hs:E.s b=some (.cells cs))(hf:off+n*zero.length<=cs.length)
 (hk:K ({E with s:=E.s.set b (.cells (setAt cs off (List.replicate n zero).flatten))}.put d (.gw []))):wV zero E d K (.arr b off n cap):=by
 refine .inr ⟨by rw[hs];exact hf,hz,?_⟩
 rw[hs];exact hk
theorem LI(h0:n=0)(hk:K (E.put d (.gw []))):wV zero E d K (.arr b off n cap):=.inl ⟨h0,hk⟩
theorem zX(hz:zero.length=sz)(hv:views zero=zero){olds:List AV}(ho:pQ E.s sz b off n=some olds)(hm:cap<n+m)(hr:(n+m)*by'<=room)
 (hk:∀b' dn,E.s b'=none->n+m<=dn->K ({E with s:=E.s.set b' (.cells (olds++(List.replicate m zero).flatten++(List.replicate (dn -(n+m)) zero).flatten))}.put d (.arr b' 0 (n+m) dn))):uE sz by' zero E d K (.arr b off n cap) (.int .i64 (m:Nat)):=by
 show 0<=((m:Nat):Int)/\_
 refine⟨Int.natCast_nonneg m,by simpa using hm,hv,?_⟩
 rw[Int.toNat_natCast]
 show TH sz by' zero E d K b off n cap m _ (pQ E.s sz b off n)
 rw[ho]
 exact⟨hz,fun h=>by omega,fun _=>⟨hr,hk⟩⟩
theorem Z0{P:Program}{f:FuncId}{ow:Bool}{b' ZV n' dn m:Nat}{cs:List AV}(h1:NO P f)(h2:0<m)(h3:cs≠[])(h4:0<dn){o:List AV}(h5:E.s b'=some (.cells o))(h6:o.length≠0)(hk:K (E.put d (.bool false))):XC P f E d K (.sl ow sz m cs) (.arr b' ZV n' dn):=by
 cases m with
 |zero=>omega
 |succ m=>cases cs with
  |nil=>exact absurd rfl h3
  |cons c cs=>cases dn with
   |zero=>omega
   |succ dn=>
    refine⟨h1,?_,hk⟩
    cases o with
    |nil=>exact absurd rfl h6
    |cons _ _=>rw[h5];exact trivial
theorem aen(C X Y:List AV)(k k':Nat)(h1:k'=k+Y.length)(h2:k'+X.length<=C.length):setAt (setAt C k' X) k Y=C.take k++Y++X++C.drop (k'+X.length):=by
 unfold setAt
 have e1:(C.take k'++X++C.drop (k'+X.length)).take k=C.take k:=by rw[List.append_assoc,List.take_append_of_le_length (by simp;omega),List.take_take,Nat.min_eq_left (by omega)]
 have e2:(C.take k'++X++C.drop (k'+X.length)).drop (k+Y.length)=X++C.drop (k'+X.length):=by rw[<-h1,List.append_assoc,List.drop_append_of_le_length (by simp;omega),List.drop_of_length_le (by simp;omega),List.nil_append]
 rw[e1,e2]
 simp[List.append_assoc]
theorem fB{off cap l sz:Nat}(h:l<cap):iY off cap l sz=off+l*sz:=by unfold iY;rw[show(cap==l)=false by simp;omega];rfl
end
section
variable{α:Type}[aK α]
theorem FQ(l:List α)(k:Nat):flat (l.take k)=(flat l).take (k*aK.w α):=(wZ l k).symm
theorem Q5(l:List α)(k:Nat):flat (l.drop k)=(flat l).drop (k*aK.w α):=(BO l k).symm
theorem gA(l:List α)(sp:List AV)(n j m:Nat)(hn:n=aK.w α)(h:j+m<=l.length):AB.sub (flat l++sp) (j*n) (m*n)=flat ((l.drop j).take m):=by
 subst hn
 rw[<-lC l _ j m rfl]
 unfold AB.sub
 have h1:j*aK.w α<=(flat l).length:=by rw[al];exact Nat.mul_le_mul_right _ (by omega)
 rw[List.drop_append_of_le_length h1,List.take_append_of_le_length]
 rw[List.length_drop,al,<-Nat.sub_mul]
 exact Nat.mul_le_mul_right _ (by omega)
theorem gz(l l':List α)(sp:List AV)(n i:Nat)(hn:n=aK.w α)(h:i+l'.length<=l.length):setAt (flat l++sp) (i*n) (flat l')=flat (l.take i++l'++l.drop (i+l'.length))++sp:=by
 subst hn
 unfold setAt
 have e1:i*aK.w α+(flat l').length=(i+l'.length)*aK.w α:=by rw[al,Nat.add_mul]
 have h1:i*aK.w α<=(flat l).length:=by rw[al];exact Nat.mul_le_mul_right _ (by omega)
 have h2:(i+l'.length)*aK.w α<=(flat l).length:=by rw[al];exact Nat.mul_le_mul_right _ h
 rw[e1,List.take_append_of_le_length h1,List.drop_append_of_le_length h2,bT,bT,FQ,Q5]
 simp[List.append_assoc]
theorem HQ(l l':List α)(sp:List AV)(n:Nat)(hn:n=aK.w α)(h:l'.length*n<=sp.length):setAt (flat l++sp) (l.length*n) (flat l')=flat (l++l')++sp.drop (l'.length*n):=by
 subst hn
 unfold setAt
 have e0:l.length*aK.w α=(flat l).length:=(al l).symm
 have e1:(flat l').length=l'.length*aK.w α:=al l'
 rw[e0,List.take_left,List.drop_append,e1,bT]
 rw[List.drop_of_length_le (by omega)]
 simp
theorem fX(z:α)(k:Nat):flat (List.replicate k z)=(List.replicate k (aK.cells z)).flatten:=by unfold flat;rw[List.map_replicate]
end
end Go.AB
end
section
namespace Go.AB
open Go
theorem ga{P:Program}{S O:Type}{body:S->Option (S⊕O)}{s0:S}{kf:O->Prop}{live:List (Nat×Bool)}{b:IC}{Q:Exit->St->Prop}{E:St}(R:S->St->Prop)
 (h0:R s0 (E.ep live))
 (hb:∀(J:St->Prop)(s:S)(U:St),R s U->ok (body s) (lA (fun t=>∀U',R t U'->J U') kf)->gO P b (tV live J Q) U):ok (iter body s0) kf->gO P (.loop live b) Q E:=by
 intro h
 have I1:∀U,(∃m s,R s U/\ok (cX body m s) kf)->∃m,(∃s,R s U/\ok (cX body m s) kf)/\∀k,k<m->¬∃s,R s U/\ok (cX body k s) kf:=by
  rintro U ⟨m,s,h⟩
  induction m using Nat.strongRecOn generalizing s with
  |_ m ih=>
   by_cases hk:∃k,k<m/\∃s,R s U/\ok (cX body k s) kf
   ·obtain⟨k,hk,s',h'⟩:=hk
    exact ih k hk s' h'
   ·exact⟨m,⟨s,h⟩,fun k hk' hs=>hk ⟨k,hk',hs⟩⟩
 have hμ:∃μ:St->Nat,∀U,(∃m s,R s U/\ok (cX body m s) kf)->(∃s,R s U/\ok (cX body (μ U) s) kf)/\∀k,k<μ U->¬∃s,R s U/\ok (cX body k s) kf:=⟨fun U=>Classical.epsilon fun m=>(∃s,R s U/\ok (cX body m s) kf)/\∀k,k<m->¬∃s,R s U/\ok (cX body k s) kf,fun U hτ=>Classical.epsilon_spec (I1 U hτ)⟩
 obtain⟨μ,hμ⟩:=hμ
 refine⟨fun U=>∃m s,R s U/\ok (cX body m s) kf,μ,⟨_,s0,h0,h⟩,?_⟩
 intro U hτ
 obtain⟨⟨s,e,hs⟩,_⟩:=hμ U hτ
 generalize hm:μ U=m at hs
 cases m with
 |zero=>exact(zk hs).elim
 |succ m=>
  rw[G6]
  obtain⟨x,hx,k⟩:=zj hs
  refine hb _ s U e ⟨x,hx,?_⟩
  cases x with
  |inr o=>exact k
  |inl t=>
   intro U' ht
   refine⟨⟨m,t,ht,k⟩,?_⟩
   have h2:=(hμ U' ⟨m,t,ht,k⟩).2
   rcases Nat.lt_or_ge m (μ U')with hlt|hge
   ·exact(h2 m hlt ⟨t,ht,k⟩).elim
   ·omega
theorem sC{α:Type}[aK α](l:List α)(sp:List AV){i r:Nat}(hi:i<l.length)(hr:r<aK.w α):(flat l++sp)[i*aK.w α+r]? =(aK.cells l[i])[r]? :=by
 have hlt:i*aK.w α+r<(flat l).length:=by
  rw[al]
  calc i*aK.w α+r<(i+1)*aK.w α:=by rw[Nat.add_mul];omega
   _<=l.length*aK.w α:=Nat.mul_le_mul_right _ hi
 rw[List.getElem?_append_left hlt]
 have h:=lC l (aK.w α) i 1 rfl
 rw[Nat.one_mul,List.drop_eq_getElem_cons hi]at h
 have h2:(AB.sub (flat l) (i*aK.w α) (aK.w α))[r]? =(aK.cells l[i])[r]? :=by
  rw[h]
  show(flat [l[i]])[r]? =_
  unfold flat
  simp
 rw[E7,if_pos hr]at h2
 exact h2
abbrev cU:=Option (Nat×Nat×List AV)
section
variable{α:Type}[aK α]
def P6:cU->Nat
 |none=>0
 |some (b,_,_)=>b
def Nb:cU->Nat
 |none=>0
 |some (_,cap,_)=>cap
abbrev iB(r:cU)(n:Nat):AV:=.arr (P6 r) 0 n (Nb r)
def gp(s:ab)(r:cU)(l:List α):ab:=match r with
 |none=>s
 |some (b,_,sp)=>s.set b (.cells (flat l++sp))
def gB(s:ab)(r:cU)(l:List α):Prop:=match r with
 |none=>l=[]
 |some (b,cap,sp)=>s b=none/\0<cap/\l.length<=cap/\(flat l++sp).length=cap*aK.w α/\views sp=sp
theorem Yb{s:ab}{r:cU}{l:List α}(h:gB s r l):Sub s (gp s r l):=by
 cases r with
 |none=>exact Sub.refl s
 |some x=>exact(Sub.refl s).set h.1
theorem jm{s:ab}{r:cU}{l:List α}(h:gB s r l){b:Nat}{o:SO}(hb:s b=some o):gp s r l b=some o:=Yb h b o hb
theorem wQ{E:St}{d:Option Nat}{K:St->Prop}{sz by':Nat}{s:ab}{r:cU}{l:List α}{z v:α}(hσ:E.s=gp s r l)(h:gB s r l)(hz:sz=aK.w α)(hr:(l.length+1)*by'<=room)
 (hK:∀s' r',Sub s s'->gB s' r' (l++[v])->K ({E with s:=gp s' r' (l++[v])}.put d (iB r' (l.length+1)))):
 eN sz by' (aK.cells z) E d K (iB r l.length) (some (1,aK.cells v)):=by
 subst hz
 have hcz:(aK.cells z).length=aK.w α:=aK.len z
 have hcv:flat [v]=aK.cells v:=by unfold flat;simp
 have hvz:views (aK.cells z)=aK.cells z:=aK.vw z
 have fresh:∀(s':ab)(b' dn:Nat),s' b'=none->l.length+1<=dn->gB s' (some (b',dn,flat (List.replicate (dn -(l.length+1)) z))) (l++[v]):=fun s' b' dn hb hc=>by
  refine⟨hb,by omega,by simpa using hc,?_,aC _⟩
  rw[List.length_append,al,al,List.length_replicate,List.length_append,<-Nat.add_mul]
  congr 1
  simp;omega
 cases r with
 |none=>
  obtain rfl:l=[]:=h
  show eN (aK.w α) by' (aK.cells z) E d K (.arr 0 0 0 0) _
  refine fS hcz (olds:=[]) rfl (by simp) hr fun b' dn hb' hc=>?_
  rw[List.nil_append,<-fX,<-hcv]
  rw[hσ]at hb'⊢
  have:=hK s (some (b',dn,flat (List.replicate (dn -(0+1)) z))) (Sub.refl s) (fresh s b' dn hb' hc)
  exact this
 |some x=>
  obtain⟨b,cap,sp⟩:=x
  obtain⟨h1,h2,h3,h4,h5⟩:=h
  have hs:E.s b=some (.cells (flat l++sp)):=by rw[hσ];exact bP
  show eN (aK.w α) by' (aK.cells z) E d K (.arr b 0 l.length cap) _
  by_cases hc:l.length+1<=cap
  ·refine nh hcz hs (by rw[h4,Nat.zero_add];exact Nat.le_refl _) hc ?_
   have hsp:[v].length*aK.w α<=sp.length:=by
    rw[List.length_append,al]at h4
    have:(l.length+1)*aK.w α<=cap*aK.w α:=Nat.mul_le_mul_right _ hc
    rw[Nat.add_mul,Nat.one_mul]at this
    simp;omega
   have st:=HQ l [v] sp (aK.w α) rfl hsp
   rw[Nat.zero_add,<-hcv,st]
   have e:E.s.set b (.cells (flat (l++[v])++sp.drop ([v].length*aK.w α)))=gp s (some (b,cap,sp.drop ([v].length*aK.w α))) (l++[v]):=by
    rw[hσ]
    show(s.set b _).set b _=s.set b _
    exact set_set ..
   rw[e]
   refine hK s _ (Sub.refl s) ⟨h1,h2,by simpa using hc,?_,?_⟩
   ·rw[List.length_append,al]at h4⊢
    rw[List.length_drop,List.length_append,Nat.add_mul]
    omega
   ·unfold views at h5⊢
    rw[List.map_drop,h5]
  ·refine fS hcz (rY hs (by
    rw[Nat.zero_add,h4];exact Nat.mul_le_mul_right _ h3)) (by omega) hr fun b' dn hb' hc'=>?_
   have ho:views (AB.sub (flat l++sp) 0 (l.length*aK.w α))=flat l:=by
    have:=gA l sp (aK.w α) 0 l.length rfl (by omega)
    rw[Nat.zero_mul]at this
    rw[this,List.drop_zero,List.take_length,aC]
   rw[ho,<-fX,<-hcv,<-bT]
   rw[hσ]at hb'⊢
   have hb0:(s.set b (.cells (flat l++sp))) b'=none:=hb'
   exact hK (s.set b (.cells (flat l++sp))) (some (b',dn,flat (List.replicate (dn -(l.length+1)) z))) ((Sub.refl s).set h1) (fresh _ b' dn hb0 hc')
theorem Nf{s:ab}{r:cU}{l:List α}(h:gB s r l)(hl:0<l.length):∃b cap sp,r=some (b,cap,sp):=by
 cases r with
 |none=>rw[show l=[] from h]at hl;simp at hl
 |some x=>exact⟨_,_,_,rfl⟩
theorem Tm{s:ab}{b cap:Nat}{sp:List AV}{l l':List α}(h:gB s (some (b,cap,sp)) l)(hl:l'.length=l.length):gB s (some (b,cap,sp)) l':=by
 obtain⟨h1,h2,h3,h4,h5⟩:=h
 exact⟨h1,h2,by omega,by rw[List.length_append,al]at h4⊢;rw[hl];exact h4,h5⟩
theorem An{E:St}{d:Option Nat}{K:St->Prop}{sz:Nat}{s:ab}{r:cU}{l:List α}(hσ:E.s=gp s r l)(h:gB s r l)(hz:sz=aK.w α)
 (hK:K ({E with s:=s}.put d (.sl true sz l.length (flat l)))):DJ sz true E d K (iB r l.length):=by
 subst hz
 cases r with
 |none=>
  obtain rfl:l=[]:=h
  show DJ (aK.w α) true E d K (.arr 0 0 0 0)
  refine .inl ⟨rfl,rfl,rfl,?_⟩
  have e:{E with s:=s}=E:=by
   have:E.s=s:=hσ
   rw[<-this]
  rw[e]at hK
  exact hK
 |some x=>
  obtain⟨b,cap,sp⟩:=x
  obtain⟨h1,h2,h3,h4,h5⟩:=h
  have hs:E.s b=some (.cells (flat l++sp)):=by rw[hσ];exact bP
  show DJ (aK.w α) true E d K (.arr b 0 l.length cap)
  refine .inr ⟨h2,h3,fun _=>⟨rfl,?_,?_⟩,?_⟩
  ·rw[hs];show 0+cap*aK.w α<=_;rw[h4];omega
  ·rw[hs];show _=0+cap*aK.w α;rw[h4];omega
  ·have ho:views (AB.sub (flat l++sp) 0 (l.length*aK.w α))=flat l:=by
    have:=gA l sp (aK.w α) 0 l.length rfl (by omega)
    rw[Nat.zero_mul]at this
    rw[this,List.drop_zero,List.take_length,aC]
   rw[hs]
   show DJ.frzK _ _ E d K b l.length (bif decide (0+l.length*aK.w α<=(flat l++sp).length)then some (l.length,views (AB.sub (flat l++sp) 0 (l.length*aK.w α)))else none)
   rw[decide_eq_true (by rw[Nat.zero_add,h4];exact Nat.mul_le_mul_right _ h3),ho]
   have e:E.s.del b=s:=by
    rw[hσ]
    exact j6 h1
   show K ({E with s:=E.s.del b}.put d (.sl true _ l.length (flat l)))
   rw[e];exact hK
end
end Go.AB
end
