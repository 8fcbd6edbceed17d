/- A part. -/
import Derived.Test.YtplacgnfinmfbaaGreatDoorFs9
import Derived.Test.YtplacgnfinmfbaaGreatDoorProg
import Derived.KernelRfl
set_option linter.unusedSimpArgs false
set_option linter.unusedVariables false
section
namespace Go.AB
open Go
def qM(G G2:Gh):Prop:=∀b,G.R b<=G2.R b/\(G.O b≠.sh->G2.O b=G.O b/\G2.R b=G.R b)
theorem FN.conv{P:Program}{f:FuncId}{args:List AV}{s:ae}{Q Q':List AV->ae->Prop}(h:FN P f args s Q)
 (k:∀rs s',Q rs s'->∀G w v,cE G w->bc G w s'->qP G w rs v->∃rs2 s2 G2,Q' rs2 s2/\qM G G2/\cE G2 w/\bc G2 w s2/\qP G2 w rs2 v):FN P f args s Q':=by
 intro G w vs h1 h2 h3 h4
 refine(h G w vs h1 h2 h3 h4).mono fun e w'⟨v,rs,s',G',a,hq,hg,hs,hr,hp⟩=>?_
 obtain⟨rs2,s2,G2,k1,k2,k3,k4,k5⟩:=k rs s' hq G' w' v hg hs hr
 refine⟨v,rs2,s2,G2,a,k1,k3,k4,k5,hp.os,hp.tape,hp.output,hp.drawn,hp.size,fun b hb=>Nat.le_trans (hp.mono b hb) (k2 b).1,hp.mJ,hp.frame,fun b hb ho=>?_,fun b hb ho=>?_⟩
 ·obtain⟨q1,q2⟩:=hp.jr b hb ho
  obtain⟨q3,q4⟩:=(k2 b).2 (by rw[q1];simp)
  grind
 ·obtain⟨q1,q2⟩:=hp.qu b hb ho
  obtain⟨q3,q4⟩:=(k2 b).2 (by rw[q1];simp)
  grind
section
variable{G:Gh}{w:World}{s:ae}{b:Nat}
theorem OA(h:bc G w s)(hg:cE G w){cs:List AV}(hs:s b=some (.cells cs))(r:Nat):
 qM G (G.xU b (.res 0) r)/\cE (G.xU b (.res 0) r) w/\bc (G.xU b (.res 0) r) w (s.del b)/\(∀a v,VR w G.R a v->VR w (G.xU b (.res 0) r).R a v):=by
 obtain⟨q2,q3,c,t,q4,q5,q6⟩:=h b _ hs
 have hR:∀b',G.R b'<=(G.xU b (.res 0) r).R b':=fun b'=>by
  by_cases hb:b'=b
  ·grind
  ·simp[hb]
 have hv:∀a v,VR w G.R a v->VR w (G.xU b (.res 0) r).R a v:=fun a v h=>h.mono hR fun _ _ _=>rfl
 have same:∀b',b'≠b->(G.xU b (.res 0) r).O b'=G.O b'/\(G.xU b (.res 0) r).R b'=G.R b':=fun b' hb'=>⟨by simp[hb'],by simp[hb']⟩
 have hlt:b<w.heap.size:=hg.lt (by rw[q2];simp)
 refine⟨fun b'=>⟨hR b',fun hb'=>same b' fun e=>by grind⟩,⟨fun b' hb'=>?_,fun b' hb'=>?_⟩,?_,hv⟩
 ·have:b'≠b:=by omega
  rw[(same b' this).1,hg.k7 b' hb']
 ·have:b'≠b:=by omega
  rw[(same b' this).2,hg.mn b' hb']
 ·intro b' o hb'
  unfold ae.del at hb'
  split at hb'
  ·cases hb'
  ·rename_i hne
   obtain⟨r1,r2,r3⟩:=h b' o hb'
   refine⟨(same b' hne).1.trans r1,(same b' hne).2.trans r2,?_⟩
   cases o with
   |cells cs'=>
    obtain⟨c',t',r4,r5,r6⟩:=r3
    exact⟨c',t',r4,r5.mono hv (fun b'' j vH=>by grind),r6⟩
   |map es=>
    obtain⟨sP,clock,r4,r5,r6⟩:=r3
    exact⟨sP,clock,r4,r5,fun j x y hx hy=>⟨hv _ _ (r6 j x y hx hy).1,hv _ _ (r6 j x y hx hy).2⟩⟩
theorem V3(h:bc G w s)(hg:cE G w){n cap sz:Nat}{cs sp:List AV}{v:Value}(hs:s b=some (.cells (cs++sp)))(hc:0<cap)(hn:n<=cap)(hl:(cs++sp).length=cap*sz)(hl2:cs.length=n*sz)(hvw:views (cs++sp)=cs++sp)
 (hr:qP G w [.arr b 0 n cap] v):∃G2,qM G G2/\cE G2 w/\bc G2 w (s.del b)/\qP G2 w [.us sz n cs] v:=by
 obtain⟨k1,k2,k3,k4⟩:=OA h hg hs 0
 obtain⟨q2,q3,c,t,q4,q5,q6⟩:=h b _ hs
 refine⟨_,k1,k2,k3,.inr ⟨b,cap,c,t,sp,hc,hn,VR.yN hr.1 hc,by simp,by simp,q4,by rw[q5.1,hl],hl2,hl,fun j x u hx hu=>k4 _ _ (q5.2 j x u hx hu).1,q6.flat hvw,hvw⟩⟩
theorem Sw{sz:Nat}{v:Value}(hr:qP G w [.arr b 0 0 0] v):qP G w [.us sz 0 []] v:=by
 rcases VR.df hr.1 with e|⟨_,_,e⟩
 ·exact .inl ⟨rfl,rfl,.inr ⟨b,0,e⟩⟩
 ·exact .inl ⟨rfl,rfl,.inl e⟩
theorem V2(h:bc G w s)(hg:cE G w){n cap sz:Nat}{cs sp:List AV}{v:Value}(hs:s b=some (.cells (cs++sp)))(hc:0<cap)(hn:n<=cap)(hl:(cs++sp).length=cap*sz)(hl2:cs.length=n*sz)(hvw:views cs=cs)
 (hr:qP G w [.arr b 0 n cap] v):∃G2,qM G G2/\cE G2 w/\bc G2 w (s.del b)/\qP G2 w [.sl true sz n cs] v:=by
 obtain⟨k1,k2,k3,k4⟩:=OA h hg hs (n*sz)
 obtain⟨q2,q3,c,t,q4,q5,q6⟩:=h b _ hs
 have e:=VR.yN hr.1 hc
 refine⟨_,k1,k2,k3,?_,?_⟩
 ·rw[e]
  refine .sl true sz n cs b 0 cap (fun j=>c.getD j undef) (q6.left.flat hvw) hl2 (by simp[hl2]) hn (fun j x hj=>?_) (fun j x hj=>?_)
  all_goals
   have hj':(cs++sp)[j]? =some x:=by rw[List.getElem?_append_left (List.getElem?_eq_some_iff.1 hj).1];exact hj
   have hlt:j<c.size:=by rw[q5.1];exact(List.getElem?_eq_some_iff.1 hj').1
   have sf:c[j]? =some (c.getD j undef):=by simp[Array.getD_eq_getD_getElem?,hlt]
  ·rw[Nat.zero_add,cell_of_row w q4,sf]
  ·exact k4 _ _ (q5.2 j x _ hj' sf).1
 ·intro base m' c6 hv _
  rw[e]at hv
  injection hv with e1 e2 e3
  subst e3
  exact⟨b,0,c,t,(0,0),e1.symm,by simp,by simp,q4,by rw[q5.1,hl,Nat.zero_add],fun j _ hj=>by simp at hj,Nat.le_refl _,rfl,.inl rfl,fun j y _ hy=>by
   have hlt:j<(cs++sp).length:=by rw[<-q5.1];exact(Array.getElem?_eq_some_iff.1 hy).1
   exact qx (q6 _ (List.getElem_mem hlt)) (q5.2 j _ y (List.getElem?_eq_getElem hlt) hy).1⟩
theorem Sv{sz:Nat}{v:Value}(hr:qP G w [.arr b 0 0 0] v):qP G w [.sl true sz 0 []] v:=by
 rcases VR.df hr.1 with e|⟨_,_,e⟩
 ·refine⟨?_,?_⟩
  ·rw[e];exact .sl true sz 0 [] b 0 0 (fun _=>undef) Fl.nil (by simp) (by simp) (Nat.le_refl _) (fun j c hj=>by simp at hj) (fun j c hj=>by simp at hj)
  ·intro base m' c6 hv hc;grind
 ·refine⟨by rw[e];exact .slnil _ _,?_⟩
  intro base m' c6 hv hc;grind
end
theorem qW{s:ae}{b:Nat}{o:SO}(h:s b=none):(s.set b o).del b=s:=by grind [ae.set,ae.del]
@[go_sem]theorem ch{s:ae}{b:Nat}{o:SO}:(s.set b o) b=some o:=by unfold ae.set;simp
def Sub(s2 s:ae):Prop:=∀b o,s2 b=some o->s b=some o
theorem Sub.refl(s:ae):Sub s s:=fun _ _ h=>h
theorem Sub.set{s s2:ae}(h:Sub s2 s){b:Nat}{o:SO}(hb:s b=none):Sub s2 (s.set b o):=fun b' o' h'=>by
 have:=h b' o' h'
 grind [ae.set]
theorem Sub.IV{s s2:ae}(h:Sub s2 s){b:Nat}{o:SO}:Sub (s2.set b o) (s.set b o):=fun b' o' h'=>by
 unfold ae.set at h'⊢
 split
 ·grind
 ·rename_i e;rw[if_neg e]at h';exact h b' o' h'
theorem Sub.del{s s2:ae}(h:Sub s2 s){b:Nat}(hb:s2 b=none):Sub s2 (s.del b):=fun b' o' h'=>by
 unfold ae.del
 split
 ·grind
 ·exact h b' o' h'
theorem Sub.none{s s2:ae}(h:Sub s2 s){b:Nat}(hb:s b=none):s2 b=none:=by
 cases h2:s2 b with
 |none=>rfl
 |some o=>have:=h b o h2;grind
theorem bc.sub{G:Gh}{w:World}{s s2:ae}(h:bc G w s)(hs:Sub s2 s):bc G w s2:=fun b o hb=>h b o (hs b o hb)
theorem qM.refl(G:Gh):qM G G:=fun _=>⟨Nat.le_refl _,fun _=>⟨rfl,rfl⟩⟩
theorem FN.Lt{P:Program}{f:FuncId}{args:List AV}{s:ae}{Q:List AV->ae->Prop}(h:FN P f args s fun rs s'=>∃s2,Sub s2 s'/\Q rs s2):FN P f args s Q:=h.conv fun rs _⟨s2,h1,h2⟩ G _ _ hg hs hr=>⟨rs,s2,G,h2,qM.refl G,hg,hs.sub h1,hr⟩
theorem FN.IP{P:Program}{f:FuncId}{args:List AV}{s s2:ae}{Q:List AV->ae->Prop}{sz:Nat}{cs:List AV}{n:Nat}(hl2:cs.length=n*sz)(hvw:views cs=cs)(hq:Q [.sl true sz n cs] s2)
 (h:FN P f args s fun rs s'=>(∃b cap sp,rs=[.arr b 0 n cap]/\s' b=some (.cells (cs++sp))/\0<cap/\n<=cap/\(cs++sp).length=cap*sz/\Sub s2 (s'.del b))\/(n=0/\cs=[]/\Sub s2 s'/\∃b,rs=[.arr b 0 0 0])):FN P f args s Q:=by
 refine h.conv fun rs s' hq' G w v hg hs hr=>?_
 rcases hq' with⟨b,cap,sp,rfl,hb,hc,hn,hl,vI⟩|⟨rfl,rfl,vI,b,rfl⟩
 ·obtain⟨G2,k1,k2,k3,k4⟩:=V2 hs hg hb hc hn hl hl2 hvw hr
  exact⟨_,_,G2,hq,k1,k2,k3.sub vI,k4⟩
 ·exact⟨_,_,G,hq,qM.refl G,hg,hs.sub vI,Sv hr⟩
theorem FN.abb{P:Program}{f:FuncId}{args:List AV}{s s2:ae}{Q:List AV->ae->Prop}{sz:Nat}{cs:List AV}{n:Nat}(hl2:cs.length=n*sz)(hq:Q [.us sz n cs] s2)
 (h:FN P f args s fun rs s'=>(∃b cap sp,rs=[.arr b 0 n cap]/\s' b=some (.cells (cs++sp))/\0<cap/\n<=cap/\(cs++sp).length=cap*sz/\views (cs++sp)=cs++sp/\Sub s2 (s'.del b))\/(n=0/\cs=[]/\Sub s2 s'/\∃b,rs=[.arr b 0 0 0])):FN P f args s Q:=by
 refine h.conv fun rs s' hq' G w v hg hs hr=>?_
 rcases hq' with⟨b,cap,sp,rfl,hb,hc,hn,hl,hvw,vI⟩|⟨rfl,rfl,vI,b,rfl⟩
 ·obtain⟨G2,k1,k2,k3,k4⟩:=V3 hs hg hb hc hn hl hl2 hvw hr
  exact⟨_,_,G2,hq,k1,k2,k3.sub vI,k4⟩
 ·exact⟨_,_,G,hq,qM.refl G,hg,hs.sub vI,Sw hr⟩
def Un:Nat:=18446744073709551616
@[go_sem]theorem agN(a b:Nat):Nat.beq a b=(a==b):=Bool.eq_iff_iff.2 (by rw[Nat.beq_eq];simp)
theorem OU{A C:Prop}{b:Bool}(h:b=true)(k:A->C):A->b=true/\C:=fun x=>⟨h,k x⟩
theorem aeK{A C:Prop}{a b:Nat}(h:a=b)(k:A->C):A->a=b/\C:=fun x=>⟨h,k x⟩
theorem mX{P:Program}{f:FuncId}{as1 as2 rs:List AV}{s s':ae}(e:as1=as2)(h:FE P f as1 s rs s'):FE P f as2 s rs s':=e▸h
def Mz(E:St)(d:Option Nat)(K:St->Prop)(b off:Nat):Option SO->Prop
 |some (.cells cs)=>j9 off cs fun cs' a=>K ({E with s:=E.s.set b (.cells cs')}.put d a)
 |_=>False
@[go_sem]theorem ZW(E:St)(d:Option Nat)(K:St->Prop)(b off:Nat):pw E d K (.ref b off)=Mz E d K b off (E.s b):=by
  show(match E.s b with|some (.cells cs)=>j9 off cs fun cs' a=>K ({E with s:=E.s.set b (.cells cs')}.put d a)|_=>False)=_
  unfold Mz
  rcases E.s b with _|⟨_|_⟩<;>rfl
@[go_sem]theorem VE(E:St)(d:Option Nat)(K:St->Prop)(b off:Nat)(cs:List AV):Mz E d K b off (some (.cells cs))=j9 off cs fun cs' a=>K ({E with s:=E.s.set b (.cells cs')}.put d a):=rfl
@[go_sem]theorem abq(o:Bool)(sz n:Nat)(ds cs:List AV)(k:List AV->AV->Prop):j9 0 (.sl o sz n ds::cs) k=k (.sl false sz n ds::cs) (.sl o sz n ds):=rfl
@[go_sem]theorem af1(t n:Nat)(ds cs:List AV)(k:List AV->AV->Prop):j9 0 (.bb t n ds::cs) k=k (.sl false 1 n ds::cs) (.bb t n ds):=rfl
@[go_sem]theorem abp(a:AV)(n:Nat)(cs:List AV)(k:List AV->AV->Prop):j9 (n+1) (a::cs) k=j9 n cs fun cs' x=>k (a::cs') x:=by
  have e:∀x,setAt (a::cs) (n+1) [x]=a::setAt cs n [x]:=fun x=>by
   unfold setAt
   rw[List.take_succ_cons,show n+1+[x].length=(n+[x].length)+1 by simp[Nat.add_right_comm],List.drop_succ_cons]
   rfl
  unfold j9
  rw[List.getElem?_cons_succ]
  cases h:cs[n]? with
  |none=>rfl
  |some b=>cases b<;>first|rfl|(simp only[e])
def ixI:AV->Option Int
 |.int _ n=>some n
 |_=>none
@[go_sem]theorem aen(f:IX->AV)(d:Int):EC f none d=some d:=rfl
@[go_sem]theorem aeo(f:IX->AV)(x:IX)(d:Int):EC f (some x) d=ixI (f x):=rfl
@[go_sem]theorem agI(k:IntKind)(n:Int):ixI (.int k n)=some n:=rfl
attribute[go_sem] Option.isSome_some Bool.cond_true
@[go_sem]theorem Xc(off cap sz:Nat):jF off cap 0 sz=off:=by
  unfold jF
  cases(cap==0)<;>simp
@[go_sem]theorem toNat_zero:(0:Int).toNat=0:=rfl
attribute[go_sem] Int.toNat_natCast Int.sub_zero Nat.sub_zero
@[go_sem]theorem toNat_sub'(a b:Nat):((a:Int) -(b:Int)).toNat=a -b:=by omega
section
variable{E:St}{d:Option Nat}{K:St->Prop}{sz by':Nat}{zero:List AV}{b off n cap m:Nat}{cs ds:List AV}
theorem Tq{s:ae}(hs:s b=some (.cells cs))(hf:off+m*sz<=cs.length):zy s sz (.arr b off m cap)=some (m,views (AB.sub cs off (m*sz))):=by
 show(bif m==0 then some (0,[])else jf m sz off (s b))=_
 by_cases hm:m=0
 ·subst hm;simp[AB.sub,views]
 ·rw[show(m==0)=false by simpa using hm,hs]
  show(bif decide (off+m*sz<=cs.length)then some (m,views (AB.sub cs off (m*sz)))else none)=_
  rw[decide_eq_true hf];rfl
theorem oU(s:ae)(ow:Bool):zy s sz (.sl ow sz m ds)=some (m,views ds):=by unfold zy;simp
theorem P4(s:ae):zy s sz (.arr b off 0 cap)=some (0,[]):=rfl
theorem va{s:ae}(hs:s b=some (.cells cs))(hf:off+n*sz<=cs.length):n9 s sz b off n=some (views (AB.sub cs off (n*sz))):=by
 unfold n9
 by_cases hm:n=0
 ·subst hm;simp[AB.sub,views]
 ·rw[show(n==0)=false by simpa using hm,hs]
  show((bif decide (off+n*sz<=cs.length)then some (n,views (AB.sub cs off (n*sz)))else none):Option (Nat×List AV)).map Prod.snd=_
  rw[decide_eq_true hf];rfl
theorem oz(hz:zero.length=sz)(hs:E.s b=some (.cells cs))(hf:off+cap*sz<=cs.length)(hm:n+m<=cap)
 (hk:K ({E with s:=E.s.set b (.cells (setAt cs (off+n*sz) ds))}.put d (.arr b off (n+m) cap))):dG sz by' zero E d K (.arr b off n cap) (some (m,ds)):=by
 have hn:off+n*sz<=cs.length:=Nat.le_trans (Nat.add_le_add_left (Nat.mul_le_mul_right _ (by omega)) _) hf
 show OR sz by' zero E d K b off n cap m ds (n9 E.s sz b off n)
 rw[va hs hn]
 refine⟨hz,fun _=>.inr ⟨by rw[hs];exact hf,?_⟩,fun h=>by omega⟩
 rw[hs];exact hk
theorem fm(hz:zero.length=sz){olds:List AV}(ho:n9 E.s sz b off n=some olds)(hm:cap<n+m)(hr:(n+m)*by'<=room)
 (hk:∀b' c6,E.s b'=none->n+m<=c6->K ({E with s:=E.s.set b' (.cells (olds++ds++(List.replicate (c6 -(n+m)) zero).flatten))}.put d (.arr b' 0 (n+m) c6))):dG sz by' zero E d K (.arr b off n cap) (some (m,ds)):=by
 show OR sz by' zero E d K b off n cap m ds (n9 E.s sz b off n)
 rw[ho]
 exact⟨hz,fun h=>by omega,fun _=>⟨hr,hk⟩⟩
theorem pa(hz:zero.length=sz){olds:List AV}(ho:n9 E.s sz b off n=some olds)(hm:n<=cap)(hk:K (E.put d (.arr b off n cap))):dG sz by' zero E d K (.arr b off n cap) (some (0,ds)):=by
 show OR sz by' zero E d K b off n cap 0 ds (n9 E.s sz b off n)
 rw[ho]
 exact⟨hz,fun _=>.inl ⟨rfl,hk⟩,fun h=>by omega⟩
theorem LS(hz:views zero=zero)(hs:E.s b=some (.cells cs))(hf:off+n*zero.length<=cs.length)
 (hk:K ({E with s:=E.s.set b (.cells (setAt cs off (List.replicate n zero).flatten))}.put d (.iP []))):yg zero E d K (.arr b off n cap):=by
 refine .inr ⟨by rw[hs];exact hf,hz,?_⟩
 rw[hs];exact hk
theorem x4(hz:zero.length=sz)(hv:views zero=zero){olds:List AV}(ho:n9 E.s sz b off n=some olds)(hm:cap<n+m)(hr:(n+m)*by'<=room)
 (hk:∀b' c6,E.s b'=none->n+m<=c6->K ({E with s:=E.s.set b' (.cells (olds++(List.replicate m zero).flatten++(List.replicate (c6 -(n+m)) zero).flatten))}.put d (.arr b' 0 (n+m) c6))):sD sz by' zero E d K (.arr b off n cap) (.int .i64 (m:Nat)):=by
 show 0<=((m:Nat):Int)/\_
 refine⟨Int.natCast_nonneg m,by simpa using hm,hv,?_⟩
 rw[Int.toNat_natCast]
 show OR sz by' zero E d K b off n cap m _ (n9 E.s sz b off n)
 rw[ho]
 exact⟨hz,fun h=>by omega,fun _=>⟨hr,hk⟩⟩
theorem FU{off cap l sz:Nat}(h:l<cap):jF off cap l sz=off+l*sz:=by unfold jF;rw[show(cap==l)=false by simp;omega];rfl
end
section
variable{α:Type}[bp α]
theorem Md(l:List α)(k:Nat):flat (l.take k)=(flat l).take (k*bp.w α):=(zK l k).symm
theorem Mb(l:List α)(k:Nat):flat (l.drop k)=(flat l).drop (k*bp.w α):=(zJ l k).symm
theorem nk(l:List α)(sp:List AV)(n j m:Nat)(hn:n=bp.w α)(h:j+m<=l.length):AB.sub (flat l++sp) (j*n) (m*n)=flat ((l.drop j).take m):=by
 subst hn
 rw[<-pR l _ j m rfl]
 unfold AB.sub
 have h1:j*bp.w α<=(flat l).length:=by rw[aR];exact Nat.mul_le_mul_right _ (by omega)
 rw[List.drop_append_of_le_length h1,List.take_append_of_le_length]
 rw[List.length_drop,aR,<-Nat.sub_mul]
 exact Nat.mul_le_mul_right _ (by omega)
theorem ve(l l':List α)(sp:List AV)(n i:Nat)(hn:n=bp.w α)(h:i+l'.length<=l.length):setAt (flat l++sp) (i*n) (flat l')=flat (l.take i++l'++l.drop (i+l'.length))++sp:=by
 subst hn
 unfold setAt
 have e1:i*bp.w α+(flat l').length=(i+l'.length)*bp.w α:=by rw[aR,Nat.add_mul]
 have h1:i*bp.w α<=(flat l).length:=by rw[aR];exact Nat.mul_le_mul_right _ (by omega)
 have h2:(i+l'.length)*bp.w α<=(flat l).length:=by rw[aR];exact Nat.mul_le_mul_right _ h
 rw[e1,List.take_append_of_le_length h1,List.drop_append_of_le_length h2,ew,ew,Md,Mb]
 simp[List.append_assoc]
theorem D9(l l':List α)(sp:List AV)(n:Nat)(hn:n=bp.w α)(h:l'.length*n<=sp.length):setAt (flat l++sp) (l.length*n) (flat l')=flat (l++l')++sp.drop (l'.length*n):=by
 subst hn
 unfold setAt
 have e0:l.length*bp.w α=(flat l).length:=(aR l).symm
 have e1:(flat l').length=l'.length*bp.w α:=aR l'
 rw[e0,List.take_left,List.drop_append,e1,ew]
 rw[List.drop_of_length_le (by omega)]
 simp
theorem iw(z:α)(k:Nat):flat (List.replicate k z)=(List.replicate k (bp.cells z)).flatten:=by unfold flat;rw[List.map_replicate]
end
attribute[go_sem] start rH j5 um Tb wU FB Nat.ble_eq
theorem mix:Go.Proofs.Tryz.prog.follows .mixedOrders=true:=by kernel_rfl
theorem bL:((true=false)=False)/\((false=true)=False)/\(∀p:Prop,(False->p)=True)/\(∀p:Prop,(True->p)=p)/\(∀p:Prop,(True/\p)=p)/\(∀p:Prop,(p/\True)=p)/\((!true)=false)/\((!false)=true)/\(∀b,(true||b)=true)/\(∀b,(false||b)=b):=by simp
theorem FO{f n:Nat}{res:List lu}{ic:IC}{args:List AV}{s:ae}{Q:List AV->ae->Prop}(hf:aS Go.Proofs.Tryz.prog f n res ic=true)(hv:wU args=true)(hn:Nat.ble args.length n=true)(hw:fK Go.Proofs.Tryz.prog ic (FB res Q) (start args s)):FN Go.Proofs.Tryz.prog f args s Q:=FN.of (kA mix) hf hv (Nat.le_of_ble_eq_true hn) hw
theorem Dt{P:Program}{S O:Type}{body:S->Option (S⊕O)}{s0:S}{kf:O->Prop}{live:List (Nat×Bool)}{b:IC}{Q:Exit->St->Prop}{E:St}(R:S->St->Prop)
 (h0:R s0 (E.ed live))
 (hb:∀(J:St->Prop)(s:S)(τ:St),R s τ->ok (body s) (jS (fun t=>∀U',R t U'->J U') kf)->fK P b (oJ live J Q) τ):ok (iter body s0) kf->fK P (.loop live b) Q E:=by
 intro h
 have HP:∀τ,(∃m s,R s τ/\ok (bV body m s) kf)->∃m,(∃s,R s τ/\ok (bV body m s) kf)/\∀k,k<m->¬∃s,R s τ/\ok (bV body k s) kf:=by
  rintro τ ⟨m,s,h⟩
  induction m using Nat.strongRecOn generalizing s with
  |_ m ih=>
   by_cases hk:∃k,k<m/\∃s,R s τ/\ok (bV body k s) kf
   ·obtain⟨k,hk,s',h'⟩:=hk
    exact ih k hk s' h'
   ·exact⟨m,⟨s,h⟩,fun k hk' hs=>hk ⟨k,hk',hs⟩⟩
 have hμ:∃μ:St->Nat,∀τ,(∃m s,R s τ/\ok (bV body m s) kf)->(∃s,R s τ/\ok (bV body (μ τ) s) kf)/\∀k,k<μ τ->¬∃s,R s τ/\ok (bV body k s) kf:=⟨fun τ=>Classical.epsilon fun m=>(∃s,R s τ/\ok (bV body m s) kf)/\∀k,k<m->¬∃s,R s τ/\ok (bV body k s) kf,fun τ hτ=>Classical.epsilon_spec (HP τ hτ)⟩
 obtain⟨μ,hμ⟩:=hμ
 refine⟨fun τ=>∃m s,R s τ/\ok (bV body m s) kf,μ,⟨_,s0,h0,h⟩,?_⟩
 intro τ hτ
 obtain⟨⟨s,e,hs⟩,_⟩:=hμ τ hτ
 generalize hm:μ τ=m at hs
 cases m with
 |zero=>exact(rm hs).elim
 |succ m=>
  rw[xG]
  obtain⟨x,hx,k⟩:=rl hs
  refine hb _ s τ e ⟨x,hx,?_⟩
  cases x with
  |inr o=>exact k
  |inl t=>
   intro U' ht
   refine⟨⟨m,t,ht,k⟩,?_⟩
   have h2:=(hμ U' ⟨m,t,ht,k⟩).2
   rcases Nat.lt_or_ge m (μ U')with hlt|hge
   ·exact(h2 m hlt ⟨t,ht,k⟩).elim
   ·omega
theorem Ma{α:Type}[bp α](l:List α)(sp:List AV){i r:Nat}(hi:i<l.length)(hr:r<bp.w α):(flat l++sp)[i*bp.w α+r]? =(bp.cells l[i])[r]? :=by
 have hlt:i*bp.w α+r<(flat l).length:=by
  rw[aR]
  calc i*bp.w α+r<(i+1)*bp.w α:=by rw[Nat.add_mul];omega
   _<=l.length*bp.w α:=Nat.mul_le_mul_right _ hi
 rw[List.getElem?_append_left hlt]
 have h:=pR l (bp.w α) i 1 rfl
 rw[Nat.one_mul,List.drop_eq_getElem_cons hi]at h
 have h2:(AB.sub (flat l) (i*bp.w α) (bp.w α))[r]? =(bp.cells l[i])[r]? :=by
  rw[h]
  show(flat [l[i]])[r]? =_
  unfold flat
  simp
 rw[I4,if_pos hr]at h2
 exact h2
abbrev cO:=Option (Nat×Nat×List AV)
section
variable{α:Type}[bp α]
def MZ:cO->Nat
 |none=>0
 |some (b,_,_)=>b
def IM:cO->Nat
 |none=>0
 |some (_,cap,_)=>cap
abbrev iO(r:cO)(n:Nat):AV:=.arr (MZ r) 0 n (IM r)
def ji(s:ae)(r:cO)(l:List α):ae:=match r with
 |none=>s
 |some (b,_,sp)=>s.set b (.cells (flat l++sp))
def gR(s:ae)(r:cO)(l:List α):Prop:=match r with
 |none=>l=[]
 |some (b,cap,sp)=>s b=none/\0<cap/\l.length<=cap/\(flat l++sp).length=cap*bp.w α/\views sp=sp
theorem Tg{s:ae}{r:cO}{l:List α}(h:gR s r l):Sub s (ji s r l):=by
 cases r with
 |none=>exact Sub.refl s
 |some x=>exact(Sub.refl s).set h.1
theorem oo{s:ae}{r:cO}{l:List α}(h:gR s r l){b:Nat}{o:SO}(hb:s b=some o):ji s r l b=some o:=Tg h b o hb
theorem Hm{E:St}{d:Option Nat}{K:St->Prop}{sz by':Nat}{s:ae}{r:cO}{l:List α}{z v:α}(hσ:E.s=ji s r l)(h:gR s r l)(hz:sz=bp.w α)(hr:(l.length+1)*by'<=room)
 (hK:∀s' r',Sub s s'->gR s' r' (l++[v])->K ({E with s:=ji s' r' (l++[v])}.put d (iO r' (l.length+1)))):
 dG sz by' (bp.cells z) E d K (iO r l.length) (some (1,bp.cells v)):=by
 subst hz
 have hcz:(bp.cells z).length=bp.w α:=bp.len z
 have hcv:flat [v]=bp.cells v:=by unfold flat;simp
 have hvz:views (bp.cells z)=bp.cells z:=bp.vw z
 have fresh:∀(s':ae)(b' c6:Nat),s' b'=none->l.length+1<=c6->gR s' (some (b',c6,flat (List.replicate (c6 -(l.length+1)) z))) (l++[v]):=fun s' b' c6 hb hc=>by
  refine⟨hb,by omega,by simpa using hc,?_,bd _⟩
  rw[List.length_append,aR,aR,List.length_replicate,List.length_append,<-Nat.add_mul]
  congr 1
  simp;omega
 cases r with
 |none=>
  obtain rfl:l=[]:=h
  show dG (bp.w α) by' (bp.cells z) E d K (.arr 0 0 0 0) _
  refine fm hcz (olds:=[]) rfl (by simp) hr fun b' c6 hb' hc=>?_
  rw[List.nil_append,<-iw,<-hcv]
  rw[hσ]at hb'⊢
  have:=hK s (some (b',c6,flat (List.replicate (c6 -(0+1)) z))) (Sub.refl s) (fresh s b' c6 hb' hc)
  exact this
 |some x=>
  obtain⟨b,cap,sp⟩:=x
  obtain⟨h1,h2,h3,h4,h5⟩:=h
  have hs:E.s b=some (.cells (flat l++sp)):=by rw[hσ];exact ch
  show dG (bp.w α) by' (bp.cells z) E d K (.arr b 0 l.length cap) _
  by_cases hc:l.length+1<=cap
  ·refine oz hcz hs (by rw[h4,Nat.zero_add];exact Nat.le_refl _) hc ?_
   have hsp:[v].length*bp.w α<=sp.length:=by
    rw[List.length_append,aR]at h4
    have:(l.length+1)*bp.w α<=cap*bp.w α:=Nat.mul_le_mul_right _ hc
    rw[Nat.add_mul,Nat.one_mul]at this
    simp;omega
   have st:=D9 l [v] sp (bp.w α) rfl hsp
   rw[Nat.zero_add,<-hcv,st]
   have e:E.s.set b (.cells (flat (l++[v])++sp.drop ([v].length*bp.w α)))=ji s (some (b,cap,sp.drop ([v].length*bp.w α))) (l++[v]):=by
    rw[hσ]
    show(s.set b _).set b _=s.set b _
    exact set_set ..
   rw[e]
   refine hK s _ (Sub.refl s) ⟨h1,h2,by simpa using hc,?_,?_⟩
   ·rw[List.length_append,aR]at h4⊢
    rw[List.length_drop,List.length_append,Nat.add_mul]
    omega
   ·unfold views at h5⊢
    rw[List.map_drop,h5]
  ·refine fm hcz (va hs (by
    rw[Nat.zero_add,h4];exact Nat.mul_le_mul_right _ h3)) (by omega) hr fun b' c6 hb' hc'=>?_
   have ho:views (AB.sub (flat l++sp) 0 (l.length*bp.w α))=flat l:=by
    have:=nk l sp (bp.w α) 0 l.length rfl (by omega)
    rw[Nat.zero_mul]at this
    rw[this,List.drop_zero,List.take_length,bd]
   rw[ho,<-iw,<-hcv,<-ew]
   rw[hσ]at hb'⊢
   have hb0:(s.set b (.cells (flat l++sp))) b'=none:=hb'
   exact hK (s.set b (.cells (flat l++sp))) (some (b',c6,flat (List.replicate (c6 -(l.length+1)) z))) ((Sub.refl s).set h1) (fresh _ b' c6 hb0 hc')
theorem Th{s:ae}{r:cO}{l:List α}(h:gR s r l)(hl:0<l.length):∃b cap sp,r=some (b,cap,sp):=by
 cases r with
 |none=>rw[show l=[] from h]at hl;simp at hl
 |some x=>exact⟨_,_,_,rfl⟩
theorem NO{E:St}{d:Option Nat}{K:St->Prop}{sz:Nat}{s:ae}{r:cO}{l:List α}(hσ:E.s=ji s r l)(h:gR s r l)(hz:sz=bp.w α)
 (hK:K ({E with s:=s}.put d (.sl true sz l.length (flat l)))):vG sz true E d K (iO r l.length):=by
 subst hz
 cases r with
 |none=>
  obtain rfl:l=[]:=h
  show vG (bp.w α) true E d K (.arr 0 0 0 0)
  refine .inl ⟨rfl,rfl,rfl,?_⟩
  have e:{E with s:=s}=E:=by
   have:E.s=s:=hσ
   rw[<-this]
  rw[e]at hK
  exact hK
 |some x=>
  obtain⟨b,cap,sp⟩:=x
  obtain⟨h1,h2,h3,h4,h5⟩:=h
  have hs:E.s b=some (.cells (flat l++sp)):=by rw[hσ];exact ch
  show vG (bp.w α) true E d K (.arr b 0 l.length cap)
  refine .inr ⟨h2,h3,fun _=>⟨rfl,?_,?_⟩,?_⟩
  ·rw[hs];show 0+cap*bp.w α<=_;rw[h4];omega
  ·rw[hs];show _=0+cap*bp.w α;rw[h4];omega
  ·have ho:views (AB.sub (flat l++sp) 0 (l.length*bp.w α))=flat l:=by
    have:=nk l sp (bp.w α) 0 l.length rfl (by omega)
    rw[Nat.zero_mul]at this
    rw[this,List.drop_zero,List.take_length,bd]
   rw[hs]
   show vG.frzK _ _ E d K b l.length (bif decide (0+l.length*bp.w α<=(flat l++sp).length)then some (l.length,views (AB.sub (flat l++sp) 0 (l.length*bp.w α)))else none)
   rw[decide_eq_true (by rw[Nat.zero_add,h4];exact Nat.mul_le_mul_right _ h3),ho]
   have e:E.s.del b=s:=by
    rw[hσ]
    exact qW h1
   show K ({E with s:=E.s.del b}.put d (.sl true _ l.length (flat l)))
   rw[e];exact hK
end
end Go.AB
end
