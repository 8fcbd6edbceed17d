/- A part. -/
import Derived.Test.YtplacgnfinmfbaaGreatDoorFr18
import Derived.OpenShut
import Derived.ChangeCalls
import Derived.JoinedCond
import Derived.Lay
import Derived.LaidOnce
import Derived.RowKit
set_option linter.defProp false
set_option linter.unusedSimpArgs false
set_option linter.unusedVariables false
section
set_option maxRecDepth 4000
namespace Go.AB
open Go
section
variable{b:List UInt8}{last:Bool}
def rh(b:List UInt8)(last:Bool)(k:Nat)(mst dst:List aX)(v:aa)(to e:Int):Prop:=
 (e≠0->v=zV/\to=0/\∃m,m<=b.length+1 -k/\kz Mc m ⟨b,(k:Int),last,mst⟩ (zV,0,e))/\
 (e=0->∃j:Nat,to=(j:Int)/\k<j/\j<=b.length/\∀m' o,Dlv b last m' dst v j o->∃m,m<=m'+(j -k)/\kz Mc m ⟨b,(k:Int),last,mst⟩ o)
theorem rh.step{k j:Nat}{mst abu dst:List aX}{v:aa}{to e:Int}(h:Mc ⟨b,(k:Int),last,mst⟩=some (.inl ⟨b,(j:Int),last,abu⟩))(hkj:k<j)(hj:j<=b.length)(r:rh b last j abu dst v to e):rh b last k mst dst v to e:=by
 refine⟨fun he=>?_,fun he=>?_⟩
 ·obtain⟨h1,h2,m,h3,h4⟩:=r.1 he
  exact⟨h1,h2,m+1,AT,kz.step h h4⟩
 ·obtain⟨j2,h1,h2,h3,h4⟩:=r.2 he
  refine⟨j2,h1,AT,h3,fun m' o hd=>?_⟩
  obtain⟨m,h5,h6⟩:=h4 m' o hd
  exact⟨m+1,AT,kz.step h h6⟩
theorem rh.err{k:Nat}{mst dst:List aX}{e:Int}(hk:k<=b.length)(he:e≠0)(h:Mc ⟨b,(k:Int),last,mst⟩=some (.inr (zV,0,e))):rh b last k mst dst zV 0 e:=⟨fun _=>⟨rfl,rfl,1,AT,kz.stop h⟩,fun h=>absurd h he⟩
theorem rh.yQ{k j:Nat}{mst dst:List aX}{v:aa}(hkj:k<j)(hj:j<=b.length)(hd:dst.length<=64)(hl:DD dst<1048577)(h:Mc ⟨b,(k:Int),last,mst⟩=yR (v,true,0,⟨b,(j:Int),last,dst⟩)):rh b last k mst dst v (j:Int) 0:=⟨fun h=>absurd rfl h,fun _=>⟨j,rfl,hkj,hj,fun m' o hd2=>⟨m'+1,AT,OL hd hl hd2 h⟩⟩⟩
def rh.seq{k j:Nat}{mst dst:List aX}{w:aX}{ws:List aX}{v v2:aa}{to2 e2:Int}(r1:rh b last k mst (w::ws) v (j:Int) 0)(r2:rh b last j (⟨w.fj,w.l_++[v]⟩::ws) dst v2 to2 e2):rh b last k mst dst v2 to2 e2:=by
 obtain⟨j',e1,h1,h2,h3⟩:=r1.2 rfl
 obtain rfl:j=j':=AT
 refine⟨fun he=>?_,fun he=>?_⟩
 ·obtain⟨g1,g2,m,g3,g4⟩:=r2.1 he
  obtain⟨m2,g5,g6⟩:=h3 m _ g4
  grind
 ·obtain⟨j2,g1,g2,g3,g4⟩:=r2.2 he
  refine⟨j2,g1,AT,g3,fun m' o hd=>?_⟩
  obtain⟨m,g5,g6⟩:=g4 m' o hd
  obtain⟨m2,g7,g8⟩:=h3 m _ g6
  grind
theorem s0{pf:List aa->Option (List aa×Int)}{p:PS}{t:aE}(h:t.Kind=0):nI pf p t=some (zV,false,10,p):=Xc4
theorem s24{pf:List aa->Option (List aa×Int)}{p:PS}{t:aE}(h:t.Kind=2\/t.Kind=4):nI pf p t=some (zV,false,(lR p (t.Kind==4)).1,(lR p (t.Kind==4)).2):=Xc4
theorem s35{pf:List aa->Option (List aa×Int)}{p:PS}{t:aE}(h:t.Kind=3\/t.Kind=5):nI pf p t=aL (DU pf p (t.Kind==5)) fun r=>some (r.1,r.2.1==0,r.2.1,r.2.2):=Xc4
theorem s16{pf:List aa->Option (List aa×Int)}{p:PS}{t:aE}(h:t.Kind=1\/t.Kind=6):nI pf p t=aL (kR p t) fun r=>bif r.2.1==0&&decide (64<=p.st.length)then some (r.1,false,15,{p with at_:=r.2.2})else some (r.1,r.2.1==0,r.2.1,{p with at_:=r.2.2}):=Xc4
theorem v0{f:Nat}{t:aE}{D:Int}(h:t.Kind=0):bj (f+1) b (tR t) last D=some (zV,0,10):=by
 rw[bj]
 exact if_pos (by show(t.Kind==0)=true;rw[h];rfl)
def v35{f:Nat}{t:aE}{D:Int}(h:t.Kind=3\/t.Kind=5):bj (f+1) b (tR t) last D=some (zV,0,11):=by
 rw[bj]
 refine ag Xc5 (ag (by show¬((t.Kind==2)||(t.Kind==4))=true;simp;omega) (aw (by show((t.Kind==3)||(t.Kind==5))=true;simp;omega) rfl))
theorem Q7{f:Nat}{t:aE}{D:Int}(h:t.Kind=2\/t.Kind=4)(hD:D>=64):bj (f+1) b (tR t) last D=some (zV,0,15):=by
 rw[bj]
 exact ag Xc5 (aw Xg7 (aw A_ rfl))
theorem v2{f:Nat}{t:aE}{D:Int}(h:t.Kind=2)(hD:¬D>=64){r:aa×Int×Int}(hr:gO f b t.To last (ao (D+1))=some r):bj (f+1) b (tR t) last D=some r:=by
 rw[bj]
 exact ag Xc5 (aw Xg7 (ag A_ (aw (by show(t.Kind==2)=true;rw[h];rfl) (ah hr rfl))))
theorem v4{f:Nat}{t:aE}{D:Int}(h:t.Kind=4)(hD:¬D>=64){r:aa×Int×Int}(hr:ji f b t.To last (ao (D+1))=some r):bj (f+1) b (tR t) last D=some r:=by
 rw[bj]
 exact ag Xc5 (aw Xg7 (ag A_ (ag (by show¬(t.Kind==2)=true;grind) (ah hr rfl))))
def Wd:Nat->aa->Prop
 |0,_=>False
 |n+1,v=>v.L.length<1048577/\∀x∈v.L,Wd n x
def Wd.leaf{n:Nat}{v:aa}(h:v.L=[]):Wd (n+1) v:=⟨A_,fun x hx=>A_⟩
def aa4:List aX->Bool
 |[]=>false
 |w::_=>!w.fj
def VC(b:List UInt8)(last:Bool)(k:Nat):Prop:=∀(st:List aX)(fuel:Nat),st.length<=64->c5 st=false->DD st<=k->(aa4 st=true->(jF b last k).1.Kind≠3)->2*(64 -st.length)+2<=fuel->(jF b last k).2=0->
 ∃v to e,bj fuel b (tR (jF b last k).1) last (st.length:Int)=some (v,to,e)/\rh b last k st st v to e/\(e=0->Wd (67 -st.length) v)
def AC(b:List UInt8)(last:Bool)(k:Nat):Prop:=∀(l:List aa)(st:List aX)(fuel cnt:Nat),st.length<64->DD st<=k->l.length<=k->(∀x∈l,Wd (66 -st.length) x)->cnt<=k->2*(64 -(st.length+1))+2<=fuel->
 ∃v to e m,m<=b.length+1 -k/\kz (Mw fuel b last ((st.length+1:Nat):Int)) m ((k:Int),l,(cnt:Int)) (.inr (v,to,e))/\rh b last k (⟨false,l⟩::st) st v to e/\(e=0->Wd (67 -st.length) v)
def DC(b:List UInt8)(last:Bool)(k:Nat):Prop:=∀(l:List aa)(d:aa)(tw:Bool)(Cs C:List VL)(st:List aX)(fuel cnt:Nat),DI l d tw Cs C->st.length<64->DD st<=k->2*Cs.length<=k->(∀c∈C,∀x∈c,Wd (66 -st.length) x)->cnt<=k->2*(64 -(st.length+1))+2<=fuel->
 ∃v to e m,m<=b.length+1 -k/\kz (MK fuel b last ((st.length+1:Nat):Int)) m ((k:Int),d,tw,(cnt:Int)) (.inr (v,to,e))/\rh b last k (⟨true,l⟩::st) st v to e/\(e=0->Wd (67 -st.length) v)
def Lw{n f:Nat}(h:2*(64 -n)+2<=f+1+1)(h2:¬64<=n):2*(64 -(n+1))+2<=f:=AT
theorem VS(hb:b.length<1048576){k:Nat}(hk:k<=b.length)(ihA:∀j,k<j->j<=b.length->AC b last j)(ihD:∀j,k<j->j<=b.length->DC b last j):VC b last k:=by
 intro st fuel h64 htw htl aaF EU hok
 have htk:=I9 hk hok
 have htL:=afo b last k
 have hM:=PI (last:=last) hb hk h64 hok
 generalize jF b last k=N at hok htk htL hM aaF⊢
 obtain⟨t,e0⟩:=N
 obtain rfl:e0=0:=hok
 have htk:zE b k t:=htk
 have htL:t.V.L=[]:=htL
 have abj:∀v:aa,v.L=[]->Wd (67 -st.length) v:=fun v h=>by rw[show 67 -st.length=(66 -st.length)+1 by omega];exact Wd.leaf h
 have no:∀{e:Int}{v:aa}(_:e≠0),e=0->Wd (67 -st.length) v:=fun h1 h2=>absurd h2 h1
 have hM:Mc ⟨b,(k:Int),last,st⟩=aL (nI iJ ⟨b,t.To,last,st⟩ t) yR:=hM
 obtain⟨f,rfl⟩:∃f,fuel=f+1:=⟨fuel -1,AT⟩
 obtain⟨j,ej,hj1,hj2,hj3⟩:=htk.to
 have single:(t.Kind=1\/t.Kind=6)->∃v to e,bj (f+1) b (tR t) last (st.length:Int)=some (v,to,e)/\rh b last k st st v to e/\(e=0->Wd (67 -st.length) v):=fun h=>by
  obtain⟨v,at',e,f1,f2,f3⟩:=Jv (b:=b) (last:=last) hb htk htL h
  have hS:=s16 (pf:=iJ) (p:=⟨b,t.To,last,st⟩) (t:=t) h
  rw[f1 st htw,aB]at hS
  rw[hS]at hM
  by_cases he:e=0
  ·subst he
   obtain⟨⟨q,rfl,hq1,hq2⟩,hvL⟩:=f3 rfl
   by_cases hD:64<=st.length
   ·refine⟨zV,0,15,A_,rh.err hk BY ?_,no BY⟩
    rw[hM]
    show aL (bif(true&&decide (64<=st.length))then _ else _) _=_
    rw[decide_eq_true hD,Bool.true_and,cond_true,aB]
    grind [jO]
   ·refine⟨v,(q:Int),0,A_,rh.yQ hq1 hq2 h64 AT ?_,fun _=>abj _ hvL⟩
    rw[hM]
    show aL (bif(true&&decide (64<=st.length))then _ else _) _=_
    rw[decide_eq_false hD,Bool.true_and,cond_false,aB]
    rfl
  ·have e1:(e==0)=false:=E_
   refine⟨zV,0,e,A_,rh.err hk he ?_,no he⟩
   rw[hM]
   show aL (bif((e==0)&&decide (64<=st.length))then _ else some (v,e==0,e,_)) _=_
   rw[e1,Bool.false_and,cond_false,aB]
   exact jO he
 have cls:(t.Kind=3\/t.Kind=5)->∃v to e,bj (f+1) b (tR t) last (st.length:Int)=some (v,to,e)/\rh b last k st st v to e/\(e=0->Wd (67 -st.length) v):=fun h=>by
  have Ch:pW st (t.Kind==5)=true:=by
   cases st with
   |nil=>rfl
   |cons w ws=>
    show((w.fj !=(t.Kind==5))||((t.Kind==5)&&!c5 (w::ws)))=true
    rw[htw]
    rcases h with h|h
    ·have:w.fj=true:=by
      cases hw:w.fj with
      |true=>rfl
      |false=>exact absurd h (aaF (by show(!w.fj)=true;rw[hw];rfl))
     grind
    grind
  refine⟨zV,0,11,v35 h,rh.err hk BY ?_,no BY⟩
  rw[hM,s35 h]
  have:DU iJ ⟨b,t.To,last,st⟩ (t.Kind==5)=some (zV,11,⟨b,t.To,last,st⟩):=by
   unfold DU
   rw[Ch,cond_true]
  grind [aB,jO]
 have opn:(t.Kind=2\/t.Kind=4)->∃v to e,bj (f+1) b (tR t) last (st.length:Int)=some (v,to,e)/\rh b last k st st v to e/\(e=0->Wd (67 -st.length) v):=fun h=>by
  have hj3:k<j:=hj3 AT
  rw[s24 h,aB]at hM
  by_cases hD:64<=st.length
  ·have hB:∀d,lR ⟨b,t.To,last,st⟩ d=(15,⟨b,t.To,last,st⟩):=fun d=>by
    unfold lR
    grind
   grind [zV,Q7,rh.err,jO]
  ·have hB:∀d,lR ⟨b,t.To,last,st⟩ d=(0,⟨b,t.To,last,⟨d,[]⟩::st⟩):=fun d=>by
    unfold lR
    grind
   rw[hB]at hM
   have hM:Mc ⟨b,(k:Int),last,st⟩=some (.inl ⟨b,t.To,last,⟨t.Kind==4,[]⟩::st⟩):=hM
   rw[ej]at hM
   have hw:ao ((st.length:Int)+1)=((st.length+1:Nat):Int):=Z_
   obtain⟨f',rfl⟩:∃f',f=f'+1:=⟨f -1,AT⟩
   rcases h with h|h
   ·obtain⟨v,to,e,m,hm,h1,h2,h9⟩:=ihA j hj3 hj1 [] st f' 0 AT AT (Nat.zero_le _) (fun x hx=>u_) (Nat.zero_le _) (Lw EU hD)
    rw[h]at hM
    refine⟨v,to,e,v2 h AT ?_,rh.step hM hj3 hj1 h2,h9⟩
    rw[ej,hw]
    exact N3 (h1.iter AT)
   ·obtain⟨v,to,e,m,hm,h1,h2,h9⟩:=ihD j hj3 hj1 [] (dV []) false [] [] st f' 0 DI.nil AT AT (Nat.zero_le _) (fun x hx=>u_) (Nat.zero_le _) (Lw EU hD)
    rw[h]at hM
    refine⟨v,to,e,v4 h AT ?_,rh.step hM hj3 hj1 h2,h9⟩
    rw[ej,hw]
    exact RS (h1.iter AT)
 rcases htk.kd with h|h|h|h|h|h|h
 ·exact⟨zV,0,10,v0 h,rh.err hk BY (by rw[hM,s0 h];exact jO BY),no BY⟩
 ·grind
 ·grind
 ·grind
 ·grind
 ·grind
 grind
theorem Ut(hb:b.length<1048576){k:Nat}(hk:k<=b.length)(hV:VC b last k)(ihA:∀j,k<j->j<=b.length->AC b last j):AC b last k:=by
 have bP:room=140737488355328:=rfl
 intro l st fuel cnt h64 htl hll hW aeM EU
 have Gn:(⟨false,l⟩::st:List aX).length<=64:=h64
 have hc:decide ((cnt:Int)<=(b.length:Int))=true:=By
 by_cases hok:(jF b last k).2=0
 ·have htk:=I9 hk hok
  have hM:=PI (last:=last) hb hk Gn hok
  have hN:jF b last k=((jF b last k).1,0):=Prod.ext rfl hok
  have hv:=hV (⟨false,l⟩::st) fuel Gn rfl hll
  by_cases h3:(jF b last k).1.Kind=3
  ·obtain⟨j,ej,hj1,hj2,hj3⟩:=htk.to
   have hj3:k<j:=hj3 AT
   refine⟨⟨6,0,⟨[]⟩,l⟩,(j:Int),0,1,AT,kz.stop ?_,rh.yQ hj3 hj1 AT AT ?_,fun _=>?_⟩
   ·unfold Mw
    refine aw hc (ah (pD hb k hk) (ag A_ (aw (by show((jF b last k).1.Kind==3)=true;rw[h3];rfl) ?_)))
    show some (Sum.inr (Sum.inr (_,(jF b last k).1.To,(0:Int))))=_
    rw[ej]
   ·rw[hM,s35 (.inl h3),ej,h3]
    rfl
   ·rw[show 67 -st.length=(66 -st.length)+1 by omega]
    exact⟨A_,hW⟩
  ·obtain⟨v,to,e,hr,kC,hwd⟩:=hv (fun _=>h3) A_ hok
   have oz:∀z,(if(e !=0)=true then some (.inr (.inr (zV,(0:Int),e)))else aI ((l.length+[v].length)*56<=room)<|some (.inl (to,l++[v],ao ((cnt:Int)+1))))=z->Mw fuel b last ((st.length+1:Nat):Int) ((k:Int),l,(cnt:Int))=z:=fun z hz=>by
    unfold Mw
    exact aw hc (ah (pD hb k hk) (ag A_ (ag (by show¬((jF b last k).1.Kind==3)=true;grind) (ah hr hz))))
   by_cases he:e=0
   ·subst he
    obtain⟨j,rfl,hj1,hj2,_⟩:=kC.2 rfl
    obtain⟨v2,to2,e2,m,hm,g1,g2,g3⟩:=ihA j hj1 hj2 (l++[v]) st fuel (cnt+1) h64 AT A_ (fun x hx=>A_) AT EU
    refine⟨v2,to2,e2,m+1,AT,kz.step (oz _ ?_) g1,rh.seq kC g2,g3⟩
    rw[if_neg BY,aP A_,ak AT AT]
    rfl
   ·obtain⟨rfl,rfl,m,hm,cG⟩:=kC.1 he
    refine⟨zV,0,e,1,AT,kz.stop (oz _ ?_),⟨fun _=>⟨rfl,rfl,m,hm,cG⟩,fun h=>absurd h he⟩,fun h=>absurd h he⟩
    grind
 ·refine⟨zV,0,(jF b last k).2,1,AT,kz.stop ?_,rh.err hk hok (LP hb hk Gn hok),fun h=>absurd h hok⟩
  unfold Mw
  exact aw hc (ah (pD hb k hk) (aw A_ rfl))
def HH{α β:Type}{o:Option α}{f:α->Option β}{r:β}(h:aL o f=some r):∃a,o=some a/\f a=some r:=by
 cases o with
 |none=>cases h
 |some a=>simp_all
theorem UK(hb:b.length<1048576){k:Nat}(hk:k<=b.length)(ihV:∀j,k<j->j<=b.length->VC b last j)(ihD:∀j,k<j->j<=b.length->DC b last j):DC b last k:=by
 have bP:room=140737488355328:=rfl
 intro l d tw Cs C st fuel cnt hDI h64 htl hCl hW aeM EU
 have no:∀{e:Int}{v:aa}(_:e≠0),e=0->Wd (67 -st.length) v:=fun h1 h2=>absurd h2 h1
 have hl:l.length=2*Cs.length:=by rw[hDI.l];exact hDI.ps.len
 have Gn:(⟨true,l⟩::st:List aX).length<=64:=h64
 have hc:decide ((cnt:Int)<=(b.length:Int))=true:=By
 have htw:c5 (⟨true,l⟩::st)=true:=by
  show(true&&((l.length:Int).tmod 2==0))=true
  rw[hl];simp
 by_cases hok:(jF b last k).2=0
 ·have htk:=I9 hk hok
  have hM:=PI (last:=last) hb hk Gn hok
  have oz:∀z,(if((jF b last k).1.Kind==5)=true then _ else _)=z->MK fuel b last ((st.length+1:Nat):Int) ((k:Int),d,tw,(cnt:Int))=z:=fun z hz=>by
   unfold MK
   exact aw hc (ah (pD hb k hk) (ag A_ hz))
  generalize jF b last k=N at hok htk hM oz⊢
  obtain⟨t,e0⟩:=N
  obtain rfl:e0=0:=hok
  have htk:zE b k t:=htk
  have hM:Mc ⟨b,(k:Int),last,⟨true,l⟩::st⟩=aL (nI iJ ⟨b,t.To,last,⟨true,l⟩::st⟩ t) yR:=hM
  obtain⟨j,ej,hj1,hj2,hj3⟩:=htk.to
  by_cases h5:t.Kind=5
  ·have hj3:k<j:=hj3 AT
   have hE:DU iJ ⟨b,t.To,last,⟨true,l⟩::st⟩ true=aL (iJ l) fun r=>bif r.2 !=0 then some (zV,r.2,⟨b,t.To,last,⟨true,l⟩::st⟩)else some (⟨7,0,⟨[]⟩,r.1⟩,0,⟨b,t.To,last,st⟩):=by
    unfold DU
    have:pW (⟨true,l⟩::st) true=false:=by
     show((true !=true)||(true&&!c5 (⟨true,l⟩::st)))=false
     rw[htw];rfl
    rw[this,cond_false]
    show(bif true then aL (iJ l) _ else _)=_
    rw[cond_true]
   rw[s35 (.inr h5),h5]at hM
   have hM:Mc ⟨b,(k:Int),last,⟨true,l⟩::st⟩=aL (aL (DU iJ ⟨b,t.To,last,⟨true,l⟩::st⟩ true) fun r=>some (r.1,r.2.1==0,r.2.1,r.2.2)) yR:=hM
   rw[hE,hDI.close AT]at hM
   cases tw with
   |true=>
    refine⟨zV,0,16,1,AT,kz.stop (oz _ (aw A_ (aw rfl rfl))),rh.err hk BY ?_,no BY⟩
    rw[hM]
    exact jO (e:=16) BY
   |false=>
    refine⟨d,(j:Int),0,1,AT,kz.stop (oz _ (aw A_ (ag BY ?_))),rh.yQ hj3 hj1 AT AT ?_,fun _=>?_⟩
    ·show some (Sum.inr (Sum.inr (d,t.To,(0:Int))))=_
     rw[ej]
    ·rw[hM,ej]
     have:=hDI.d
     subst this
     rfl
    ·have hd:=hDI.d
     subst hd
     rw[show 67 -st.length=(66 -st.length)+1 by omega]
     have hl2:=hDI.pc.len
     have hl3:=hDI.len
     refine⟨by show C.flatten.length<_;omega,fun x hx=>?_⟩
     obtain⟨c,hc1,hc2⟩:=List.mem_flatten.1 hx
     grind
  ·have hn5:¬(t.Kind==5)=true:=by simpa using h5
   by_cases h0:t.Kind=0
   ·refine⟨zV,0,10,1,AT,kz.stop (oz _ (ag hn5 (aw (by show(t.Kind==0)=true;rw[h0];rfl) rfl))),rh.err hk BY ?_,no BY⟩
    rw[hM,s0 h0];exact jO BY
   ·have hn0:¬(t.Kind==0)=true:=S_
    have hj3:k<j:=hj3 h0
    by_cases hnm:t.Kind=1/\t.V.Kind=5
    ·obtain⟨h1,hv5⟩:=hnm
     have hV:=htk.nm h1 hv5
     have hsg:kR ⟨b,t.To,last,⟨true,l⟩::st⟩ t=some (t.V,0,t.To):=by
      unfold kR
      have c1:¬(c5 (⟨true,l⟩::st)&&(t.Kind !=1||t.V.Kind !=5))=true:=by rw[h1,hv5];simp
      have c2:¬(t.Kind==6)=true:=by rw[h1];decide
      have c3:du t=some false:=by unfold du;rw[h1,hv5];rfl
      exact ag c1 (ag c2 (ah c3 (ag BY rfl)))
     rw[s16 (.inl h1),hsg,aB]at hM
     have hnn:¬((t.Kind !=1)||(t.V.Kind !=5))=true:=by rw[h1,hv5];decide
     by_cases hD:64<=st.length+1
     ·refine⟨zV,0,15,1,AT,kz.stop (oz _ (ag hn5 (ag hn0 (ag hnn (aw By rfl))))),rh.err hk BY ?_,no BY⟩
      rw[hM]
      show aL (bif(true&&decide (64<=st.length+1))then _ else _) _=_
      rw[decide_eq_true hD,Bool.true_and,cond_true,aB]
      grind [jO]
     ·have hM2:Mc ⟨b,(k:Int),last,⟨true,l⟩::st⟩=some (.inl ⟨b,(j:Int),last,⟨true,l++[t.V]⟩::st⟩):=by
       rw[hM]
       show aL (bif(true&&decide (64<=st.length+1))then _ else _) _=_
       rw[decide_eq_false hD,Bool.true_and,cond_false,aB,ej]
       unfold yR
       show aI ((⟨true,l⟩::st:List aX).length<=64) _=_
       rw[aP Gn]
       exact ai A_ rfl
      have UY:¬decide (((st.length+1:Nat):Int)>=64)=true:=By
      by_cases Sj:(jF b last j).2=0
      ·obtain⟨v,to,e,hr,kC,hwd⟩:=ihV j hj3 hj1 (⟨true,l++[t.V]⟩::st) fuel Gn (by
        show(true&&(((l++[t.V]).length:Int).tmod 2==0))=false
        grind) (by show(l++[t.V]).length<=j;grind) (fun h=>F_) A_ Sj
       have O3:∀z,(if(e !=0)=true then some (.inr (.inr (zV,(0:Int),e)))else aL (eu (!tw) 0 (b9 d t.V.S)) fun r16=>aL (iK d t.V.S v) fun r17=>some (.inl (to,r17,tw||(decide (r16>=0)),ao ((cnt:Int)+1))))=z->MK fuel b last ((st.length+1:Nat):Int) ((k:Int),d,tw,(cnt:Int))=z:=fun z hz=>by refine oz _ (ag hn5 (ag hn0 (ag hnn (ag UY (ah (a:=(tR (jF b last j).1,(jF b last j).2)) (by show bu b t.To last=_;grind [pD]) (ag A_ (ah hr hz)))))))
       by_cases he:e=0
       ·subst he
        obtain⟨j2,rfl,hj4,hj5,_⟩:=kC.2 rfl
        obtain⟨i,d',heq,C',aeE,Si⟩:=hDI.put AT t.V.S v
        obtain⟨r16,g1,heq⟩:=HH heq
        obtain⟨r17,g2,heq⟩:=HH heq
        injection heq with heq
        injection heq with g3 g4
        subst g3
        obtain⟨v2,to2,e2,m,hm,q1,q2,q3⟩:=ihD j2 AT hj5 _ _ i _ C' st fuel (cnt+1) aeE h64 AT A_ (fun c hc x hx=>by
         rcases Si c hc with hc|⟨s',rfl⟩
         ·grind
         ·have hx:x=⟨5,0,s',[]⟩\/x=v:=by simpa[pr]using hx
          rcases hx with rfl|rfl
          ·rw[show 66 -st.length=(65 -st.length)+1 by omega];exact Wd.leaf rfl
          grind) AT EU
        refine⟨v2,to2,e2,m+1,AT,kz.step (O3 _ ?_) q1,rh.step hM2 hj3 hj1 (rh.seq kC ?_),q3⟩
        ·rw[if_neg BY,g1,aB,g2,aB,g4,ak AT AT]
         rfl
        grind
       ·obtain⟨rfl,rfl,m,hm,cG⟩:=kC.1 he
        refine⟨zV,0,e,1,AT,kz.stop (O3 _ ?_),rh.step hM2 hj3 hj1 ⟨fun _=>⟨rfl,rfl,m,hm,cG⟩,fun h=>absurd h he⟩,no he⟩
        grind
      ·refine⟨zV,0,(jF b last j).2,1,AT,kz.stop (oz _ (ag hn5 (ag hn0 (ag hnn (ag UY (ah (a:=(tR (jF b last j).1,(jF b last j).2)) (by show bu b t.To last=_;grind [pD]) (aw A_ rfl))))))),rh.step hM2 hj3 hj1 (rh.err hj1 Sj (LP hb hj1 Gn Sj)),no Sj⟩
    ·have hnn:((t.Kind !=1)||(t.V.Kind !=5))=true:=by
      simp only[Bool.or_eq_true,bne_iff_ne]
      by_cases h1:t.Kind=1
      ·grind
      ·exact .inl h1
     refine⟨zV,0,11,1,AT,kz.stop (oz _ (ag hn5 (ag hn0 (aw hnn rfl)))),rh.err hk BY ?_,no BY⟩
     rw[hM]
     have sg:(t.Kind=1\/t.Kind=6)->aL (nI iJ ⟨b,t.To,last,⟨true,l⟩::st⟩ t) yR=some (.inr (zV,0,11)):=fun h=>by
      have:kR ⟨b,t.To,last,⟨true,l⟩::st⟩ t=some (zV,11,t.To):=by
       unfold kR
       exact aw A_ rfl
      grind [s16,aB,jO]
     have bg:(t.Kind=2\/t.Kind=4)->aL (nI iJ ⟨b,t.To,last,⟨true,l⟩::st⟩ t) yR=some (.inr (zV,0,11)):=fun h=>by
      have hB:∀d,lR ⟨b,t.To,last,⟨true,l⟩::st⟩ d=(11,⟨b,t.To,last,⟨true,l⟩::st⟩):=fun d=>by
       unfold lR
       grind
      grind [s24,aB,jO]
     rcases htk.kd with h|h|h|h|h|h|h
     ·grind
     ·grind
     ·grind
     ·have:DU iJ ⟨b,t.To,last,⟨true,l⟩::st⟩ (t.Kind==5)=some (zV,11,⟨b,t.To,last,⟨true,l⟩::st⟩):=by
       rw[h];rfl
      grind [s35,aB,jO]
     ·grind
     ·grind
     grind
 ·refine⟨zV,0,(jF b last k).2,1,AT,kz.stop ?_,rh.err hk hok (LP hb hk Gn hok),no hok⟩
  unfold MK
  exact aw hc (ah (pD hb k hk) (aw A_ rfl))
def NV(hb:b.length<1048576):∀(n k:Nat),k<=b.length->b.length -k<=n->VC b last k/\AC b last k/\DC b last k
 |0,k,hk,hn=>by grind [VS,last,Ut,UK]
 |n+1,k,hk,hn=>by
  have ih:=fun j(h1:k<j)(h2:j<=b.length)=>NV hb n j h2 AT
  have hV:=VS (last:=last) hb hk (fun j h1 h2=>(ih j h1 h2).2.1) (fun j h1 h2=>(ih j h1 h2).2.2)
  exact⟨hV,Ut hb hk hV (fun j h1 h2=>(ih j h1 h2).2.1),UK hb hk (fun j h1 h2=>(ih j h1 h2).1) (fun j h1 h2=>(ih j h1 h2).2.2)⟩
end
namespace Fq
def Iq(p:Nat->Bool):∀n,(∀k,k<n->p k=true)\/∃j,j<n/\p j=false/\∀k,k<j->p k=true
 |0=>.inl fun k h=>absurd h (Nat.not_lt_zero k)
 |n+1=>by
  rcases Iq p n with h|⟨j,h1,h2,h3⟩
  ·grind
  grind
theorem abH{b:Bool}(h:(!b)=true):b=false:=A_
def afn{b:Bool}(h:(!b)=false):b=true:=A_
def BV(v:aa)(key:aC)(hL:v.L.length<1048577):∃i,jk v key=some i/\b9 v key=some i/\(i=-1\/(0<=i/\i<v.L.length)):=by
 by_cases hk:v.Kind=7
 ·have hk1:(v.Kind==7)=true:=ζ
  have hk2:(v.Kind !=7)=false:=by show(!(v.Kind==7))=false;rw[hk1];rfl
  have w2:∀k:Nat,k<=2000000->ao ((k:Int)+2)=((k+2:Nat):Int):=fun k hk=>d_
  rcases Iq (fun k=>!(((ix v.L ((2*k:Nat):Int)).Kind==5)&&(((ix v.L ((2*k:Nat):Int)).S).b==key.b))) ((v.L.length+1)/2)with g|⟨j,g1,g2,g3⟩
  ·have lp:∀(B:Int->Option (Int⊕(Unit⊕Int))),(∀i:Nat,i<v.L.length->(((ix v.L (i:Int)).Kind==5)&&(((ix v.L (i:Int)).S).b==key.b))=false->B i=some (.inl (ao ((i:Int)+2))))->(∀i:Nat,v.L.length<=i->B (i:Int)=some (.inr (.inl ())))->iter B 0=some (.inl ()):=fun B hb he=>by
    refine fb ((v.L.length+1)/2) (fun k=>((2*k:Nat):Int)) rfl AT (fun k hk=>?_) (he _ AT)
    rw[hb (2*k) AT (abH (g k hk)),w2 _ AT];rfl
   refine⟨-1,?_,?_,.inl rfl⟩
   ·unfold jk
    rw[hk2]
    refine ag BY (bH (z:=.inl ()) (xd (z:=.inl ()) (lp _ (fun i hi hc=>?_) (fun i hi=>ag By rfl)) rfl) rfl)
    simp_all
   ·unfold b9
    rw[hk1]
    refine bH (z:=.inl ()) (xd (z:=.inl ()) (lp _ (fun i hi hc=>?_) (fun i hi=>ag By rfl)) rfl) rfl
    simp_all
  ·have lp:∀(B:Int->Option (Int⊕(Unit⊕Int))),(∀i:Nat,i<v.L.length->(((ix v.L (i:Int)).Kind==5)&&(((ix v.L (i:Int)).S).b==key.b))=false->B i=some (.inl (ao ((i:Int)+2))))->(∀i:Nat,i<v.L.length->(((ix v.L (i:Int)).Kind==5)&&(((ix v.L (i:Int)).S).b==key.b))=true->B (i:Int)=some (.inr (.inr (i:Int))))->iter B 0=some (.inr ((2*j:Nat):Int)):=fun B hb he=>by
    refine fb j (fun k=>((2*k:Nat):Int)) rfl AT (fun k hk=>?_) (he _ AT (afn g2))
    rw[hb (2*k) AT (abH (g3 k hk)),w2 _ AT];rfl
   refine⟨((2*j:Nat):Int),?_,?_,.inr ⟨AT,AT⟩⟩
   ·unfold jk
    simp_all
   ·unfold b9
    simp_all
 ·have hk1:(v.Kind==7)=false:=n_
  refine⟨-1,aw A_ rfl,?_,.inl rfl⟩
  unfold b9
  rw[hk1]
  exact bH (z:=.inl ()) (xd (z:=.inl ()) (IK 0 AT (fun k hk=>AT) (ag B_ rfl)) rfl) rfl
def Sd(v:aa)(key:aC)(hL:v.L.length<1048577):∃i:Int,gC v key=some (decide (i>=0))/\b9 v key=some i:=by
 obtain⟨i,h1,h2,h3⟩:=BV v key hL
 refine⟨i,?_,h2⟩
 unfold gC iO
 rw[h1,aB]
 rcases h3 with rfl|⟨h3,h4⟩
 ·rfl
 ·have e:decide (i<0)=false:=decide_eq_false AT
  have e1:decide (i>=0)=true:=decide_eq_true h3
  have w:ao (i+1)=i+1:=ak AT AT
  rw[e,e1,w]
  by_cases hc:((i+1)==(v.L.length:Int))=true
  ·simp_all
  ·have:¬i+1=(v.L.length:Int):=M_
   exact ah (ag BY (ag hc (ai ⟨AT,AT⟩ rfl))) rfl
abbrev z0:aa:=aa.mk 0 0 (aC.mk []) ([]:List aa)
def OT(v:aa)(key:aC)(hL:v.L.length<1048577):∃g:aa×Bool,iO v key=some g/\ly v key=some g/\(g.2=false->g.1=z0):=by
 obtain⟨i,h1,h2,h3⟩:=BV v key hL
 unfold iO ly
 rw[h1,h2,aB,aB]
 rcases h3 with rfl|⟨h3,h4⟩
 ·grind
 ·have w:ao (i+1)=i+1:=ak AT AT
  have w2:ao ((v.L.length:Int) -1)=(v.L.length:Int) -1:=ak AT AT
  rw[w,w2]
  by_cases hc:i+1=v.L.length
  ·exact⟨(z0,true),ag By (aw A_ rfl),ag By (aw By rfl),fun h=>F_⟩
  ·exact⟨(ix v.L (i+1),true),ag By (ag A_ (ai AT rfl)),ag By (ag By (ai AT rfl)),fun h=>F_⟩
def Nb(v:aa)(hL:v.L.length<1048577):∃p:Bool×Bool,j5 v=some p/\iL v=some p:=by
 obtain⟨⟨g,is⟩,h1,h2,h3⟩:=OT v (aC.mk [70,105,108,116,101,114]) hL
 unfold j5 iL
 rw[h1,h2,aB,aB]
 cases is with
 |false=>simp_all
 |true=>
  by_cases hc:((g.Kind==6)&&((g.L.length:Int)==1))=true
  ·simp_all
  ·exact⟨_,bQ (ag hc rfl) rfl,ag A_ (bQ (ag hc rfl) rfl)⟩
def Lq(v:aa)(key:aC)(hW:Wd 67 v):∃w,fh v key=some w/\fK v key=some w/\Wd 67 w:=by
 have bP:room=140737488355328:=rfl
 have hL:v.L.length<1048577:=hW.1
 obtain⟨i,h1,h2,h3⟩:=BV v key hL
 unfold fh fK
 rw[h1,h2,aB,aB]
 rcases h3 with rfl|⟨h3,h4⟩
 ·grind
 ·obtain⟨n,rfl⟩:∃n:Nat,i=n:=⟨i.toNat,AT⟩
  have w:ao ((n:Int)+2)=((n+2:Nat):Int):=H_
  have hp:part v.L 0 (n:Int)=v.L.take n:=by
   unfold part
   rw[Int.sub_zero];rfl
  have hpl:(part v.L 0 (n:Int)).length=n:=by rw[hp,List.length_take];omega
  rw[w]
  refine⟨⟨v.Kind,v.N,v.S,v.L.take n++v.L.drop (min (n+2) v.L.length)⟩,ag B_ (ai ⟨AT,AT,AT⟩ rfl),ag B_ (ai ⟨AT,AT,AT⟩ (ai A_ ?_)),?_⟩
  ·by_cases hc:n+2<v.L.length
   ·have hq:part v.L ((n+2:Nat):Int) (v.L.length:Int)=v.L.drop (n+2):=by
     unfold part
     rw[Int.toNat_natCast,List.take_of_length_le A_]
    rw[hq,show min (n+2) v.L.length=n+2 by omega]
    refine bQ (aw By (ai ⟨AT,AT,AT⟩ (ai A_ rfl))) ?_
    rw[hp]
   ·rw[show min (n+2) v.L.length=v.L.length by omega,List.drop_length,List.append_nil]
    refine bQ (ag By rfl) ?_
    rw[hp]
  ·refine⟨?_,fun x hx=>hW.2 x ?_⟩
   ·grind
   grind
def HW:∀(n:Nat)(v:aa)(fuel:Nat),Wd n v->n<=fuel->er fuel v v=some 0
 |0,_,_,h,_=>h.elim
 |n+1,v,0,_,h=>by omega
 |n+1,v,fuel+1,h,hf=>by
  obtain⟨h1,h2⟩:=h
  rw[er]
  have b0:Op.bytesLess v.S.b v.S.b=false:=vt _
  have lp:iter (fun(k4:Int)=>
   if(decide (k4<(v.L.length:Int)))&&(decide (k4<(v.L.length:Int)))then
    aI (0<=k4/\k4<v.L.length)<|
    aI (0<=k4/\k4<v.L.length)<|
    aL (er fuel (ix v.L k4) (ix v.L k4)) fun r8=>
    if r8 !=0 then
     some (.inr (.inr r8))
    else
     some (.inl (ao (k4+1)))
   else
    some (.inr (.inl ():Unit⊕Int))) 0=some (.inl ()):=by
   refine IK v.L.length AT (fun k hk=>?_) (ag B_ rfl)
   have hx:ix v.L (k:Int)=v.L[k]:=eK hk
   exact aw By (ai ⟨AT,AT⟩ (ai ⟨AT,AT⟩ (ah (by rw[hx];exact HW n _ fuel (h2 _ (List.getElem_mem hk)) AT) (ag BY rfl))))
  simp_all
def No{v:aa}(h:Wd 67 v):mO v v=some true:=by
 unfold mO
 have hb:67<=HF:=BY
 exact ah (HW 67 v HF h hb) rfl
end Fq
namespace Fq
def FJ{b:List UInt8}{last:Bool}(hb:b.length<1048576)(k:Nat)(hk:k<=b.length)(w:List UInt8)(h:(pP b last k w).2=0):∃j:Nat,(pP b last k w).1=(j:Int)/\j<=b.length:=by
 unfold pP at h⊢
 by_cases he:((jF b last k).2 !=0)=true
 ·grind
 ·rw[if_neg he]at h⊢
  have he0:(jF b last k).2=0:=E_
  obtain⟨j,j1,j2,j3,j4⟩:=GH hb k hk he0
  grind
abbrev R(b:List UInt8)(at_:Int)(last:Bool)(e:Int):ay:=ay.mk (cq.mk b at_ last) e
abbrev o0:aM:=aM.mk z0 false (aC.mk [])
def Ae(last:Bool):Int:=if last then 10 else 6
def A6(last:Bool):Ae last≠0:=by cases last<;>decide
section
variable{r:ay}(h:r.e_≠0)
include h
def aaq(x y:Int):bU r x y=some (0,r):=by unfold bU;grind
def vZ(w:aC):bw r w=some r:=by unfold bw;grind
def Ou:c7 r=some (z0,r):=by unfold c7;grind
def aar:bZ r=some (false,r):=by unfold bZ;grind
def RR(n:Int):cN r n=some ([],r):=by unfold cN;grind
end
def zN(b:List UInt8)(at_:Int)(last:Bool)(e:Int):aY (R b at_ last 0) e=some (R b at_ last e):=by unfold aY;grind
def LS(b:List UInt8)(at_:Int)(last:Bool):dD (cq.mk b at_ last)=some (Ae last):=by grind [dD,Ae,last]
def Oo(last:Bool):mP last=some (Ae last):=by grind [mP,Ae,last]
section
variable{b:List UInt8}{last:Bool}
def N5{j:Nat}(hb:b.length<1048576)(hj:j<=b.length)(e:Int):∃k:Nat,k<=b.length/\
 aI ((decide ((j:Int)<(b.length:Int)))=true->0<=(j:Int)/\(j:Int)<b.length) (if(decide ((j:Int)<(b.length:Int)))&&(((ix b (j:Int)).toNat:Int)==13)then some (ao ((j:Int)+1))else some (j:Int))=some (k:Int)/\
 aI ((decide ((j:Int)<(b.length:Int)))=true->0<=(j:Int)/\(j:Int)<b.length) (if(decide ((j:Int)<(b.length:Int)))&&(((ix b (j:Int)).toNat:Int)==13)then some (R b (ao ((j:Int)+1)) last e)else some (R b (j:Int) last e))=some (R b (k:Int) last e):=by
 have w:ao ((j:Int)+1)=((j+1:Nat):Int):=H_
 rw[w]
 have hn:(decide ((j:Int)<(b.length:Int)))=true->0<=(j:Int)/\(j:Int)<b.length:=fun h=>⟨AT,of_decide_eq_true h⟩
 by_cases hc:((decide ((j:Int)<(b.length:Int)))&&(((ix b (j:Int)).toNat:Int)==13))=true
 ·have hlt:(j:Int)<b.length:=of_decide_eq_true (Bool.and_eq_true_iff.1 hc).1
  exact⟨j+1,AT,ai hn (aw hc rfl),ai hn (aw hc rfl)⟩
 ·exact⟨j,hj,ai hn (ag hc rfl),ai hn (ag hc rfl)⟩
def sT(v:aa)(p:Bool)(N:Int)(r10:ay):Option (aM×ay):=
 aL (cN r10 N) fun r11=>
 aL (bw r11.2 (aC.mk [101,110,100,115,116,114,101,97,109])) fun r12=>
 aL (bw r12 (aC.mk [101,110,100,111,98,106])) fun r13=>
 jn (
  if p&&(r13.e_==0)then
   aL (jW r11.1 16777216) fun r18=>
   jn (
    if r18.2.2 !=0 then
     aL (aY r13 18) fun r23=>
     some r23
    else
     some r13) fun(o22:ay)=>
   some (r18.1,o22)
  else
   some (r11.1,r13)) fun((v7,o17):(List UInt8)×ay)=>
 aL (fh v (aC.mk [76,101,110,103,116,104])) fun r24=>
 aL (fh r24 (aC.mk [70,105,108,116,101,114])) fun r25=>
 aL (jb r25 (aC.mk v7)) fun r26=>
 some (r26,o17)
def UR(v:aa)(hW:Wd 67 v):∃w1 w2,fh v (aC.mk [76,101,110,103,116,104])=some w1/\fh w1 (aC.mk [70,105,108,116,101,114])=some w2/\fK v (aC.mk [76,101,110,103,116,104])=some w1/\fK w1 (aC.mk [70,105,108,116,101,114])=some w2/\Wd 67 w2:=by
 obtain⟨w1,a1,a2,aW⟩:=Lq v (aC.mk [76,101,110,103,116,104]) hW
 obtain⟨w2,b1,b2,bW⟩:=Lq w1 (aC.mk [70,105,108,116,101,114]) aW
 grind
def Hc{v:aa}(hW:Wd 67 v)(p:Bool)(N:Int){r:ay}(h:r.e_≠0):∃o,sT v p N r=some (o,r):=by
 obtain⟨w1,w2,a1,a2,_⟩:=UR v hW
 refine⟨⟨w2,true,⟨[]⟩⟩,?_⟩
 unfold sT
 exact ah (RR h N) (ah (vZ h _) (ah (vZ h _) (bQ (a:=([],r)) (ag (by simp[h]) rfl) (ah a1 (ah a2 rfl)))))
def M1{j:Nat}(hb:b.length<1048576)(hj:j<=b.length){e:Int}(he:e≠0):∃k:Nat,cH (R b (j:Int) last e)=some (R b (k:Int) last e):=by
 obtain⟨k,_,_,h2⟩:=N5 (last:=last) hb hj e
 refine⟨k,?_⟩
 unfold cH
 simp_all
def nf:¬(false=true):=BY
def zb:¬((0:Int)!=0)=true:=BY
abbrev A7(v g:aa):Bool:=(((v.Kind !=7)||(g.Kind !=2))||(decide (g.N<0)))||(decide (g.N>16777216))
def NC(hb:b.length<1048576){j:Nat}(hj:j<=b.length){v:aa}(hW:Wd 67 v):∃o r' x,cT (R b (j:Int) last 0) v=some (o,r')/\c9 b (j:Int) last v=some x/\((x.2.2=0/\r'.e_=0/\o=x.1/\r'.aG.at_=x.2.1/\Wd 67 o.V)\/(x.2.2≠0/\r'.e_=x.2.2)):=by
 obtain⟨⟨g,gi⟩,g1,g2,_⟩:=OT v (aC.mk [76,101,110,103,116,104]) hW.1
 obtain⟨p,p1,p2⟩:=Nb v hW.1
 obtain⟨i,i1,i2⟩:=Sd v (aC.mk [68,101,99,111,100,101,80,97,114,109,115]) hW.1
 by_cases Ch:(A7 v g||(!p.2)||decide (i>=0))=true
 ·
  obtain⟨k,hk⟩:=M1 (last:=last) hb hj (e:=18) BY
  obtain⟨o,ho⟩:=Hc hW p.1 g.N (r:=R b (k:Int) last 18) A_
  refine⟨o,R b (k:Int) last 18,(o0,0,18),?_,?_,.inr ⟨A_,rfl⟩⟩
  ·unfold cT
   refine ah g1 (ah p1 (bQ (a:=R b (j:Int) last 18) ?_ (ah hk ho)))
   cases hA:A7 v g with
   |true=>exact ah (a:=false) (by show eu (!A7 v g) false _=_;rw[hA];rfl) (aw A_ (ah (zN _ _ _ _) rfl))
   |false=>
    rw[hA,Bool.false_or]at Ch
    refine ah (a:=decide (i>=0)) (by show eu (!A7 v g) false _=_;rw[hA];exact i1) (aw ?_ (ah (zN _ _ _ _) rfl))
    grind
  ·unfold c9
   refine ah g2 (ah p2 ?_)
   cases hA:(A7 v g||!p.2)with
   |true=>simp_all
   |false=>
    rw[hA,Bool.false_or]at Ch
    exact ah (a:=i) i2 (aw Ch rfl)
 ·have Ch:(A7 v g||(!p.2)||decide (i>=0))=false:=by simpa using Ch
  obtain⟨hA2,hi⟩:=Bool.or_eq_false_iff.1 Ch
  obtain⟨hA,hp⟩:=Bool.or_eq_false_iff.1 hA2
  have hN:0<=g.N/\g.N<=16777216:=by
   have h1:=(Bool.or_eq_false_iff.1 hA).2
   have h2:=(Bool.or_eq_false_iff.1 (Bool.or_eq_false_iff.1 hA).1).2
   exact⟨A_,A_⟩
  obtain⟨w1,w2,a1,a2,c1,c2,hW2⟩:=UR v hW
  obtain⟨k,hk,k1,k2⟩:=N5 (last:=last) hb hj 0
  have tf:∀(r10:ay)(o:aM)(r':ay),cH (R b (j:Int) last 0)=some r10->sT v p.1 g.N r10=some (o,r')->cT (R b (j:Int) last 0) v=some (o,r'):=fun r10 o r' h1 h2=>by
   unfold cT
   refine ah g1 (ah p1 (bQ (a:=R b (j:Int) last 0) ?_ (ah h1 h2)))
   refine ah (a:=decide (i>=0)) (by show eu (!A7 v g) false _=_;rw[hA];exact i1) (ag ?_ rfl)
   grind
  have hfi:eu (!(A7 v g||!p.2)) 0 (b9 v (aC.mk [68,101,99,111,100,101,80,97,114,109,115]))=some i:=by rw[hA2];exact i2
  have hno:¬((A7 v g||!p.2)||decide (i>=0))=true:=by rw[Ch];decide
  by_cases AG:(k:Int)>=(b.length:Int)
  ·obtain⟨o,ho⟩:=Hc hW p.1 g.N (r:=R b (k:Int) last (Ae last)) (A6 last)
   refine⟨o,_,(o0,0,Ae last),tf _ o _ ?_ ho,by unfold c9;exact ah g2 (ah p2 (ah hfi (ag hno (bQ k1 (aw A_ (ah (Oo last) rfl)))))),.inr ⟨A6 last,rfl⟩⟩
   unfold cH
   exact bQ k2 (ag zb (aw A_ (ah (LS b _ last) (ah (zN _ _ _ _) rfl))))
  ·have hki:0<=(k:Int)/\(k:Int)<b.length:=⟨AT,AT⟩
   by_cases h10:(((ix b (k:Int)).toNat:Int)!=10)=true
   ·obtain⟨o,ho⟩:=Hc hW p.1 g.N (r:=R b (k:Int) last 18) A_
    refine⟨o,_,(o0,0,18),tf _ o _ ?_ ho,by unfold c9;exact ah g2 (ah p2 (ah hfi (ag hno (bQ k1 (ag A_ (ai hki (aw h10 rfl))))))),.inr ⟨A_,rfl⟩⟩
    unfold cH
    exact bQ k2 (ag zb (ag A_ (ai hki (aw h10 (ah (zN _ _ _ _) rfl)))))
   ·have w:ao ((k:Int)+1)=((k+1:Nat):Int):=H_
    have te:cH (R b (j:Int) last 0)=some (R b ((k+1:Nat):Int) last 0):=by
     unfold cH
     exact bQ k2 (ag zb (ag A_ (ai hki (ag h10 (by rw[w])))))
    have tf:=fun o r'=>tf _ o r' te
    obtain⟨n,hn⟩:∃n:Nat,g.N=n:=⟨g.N.toNat,AT⟩
    rw[hn]at tf hN
    have w3:ao ((b.length:Int) -((k+1:Nat):Int))=(b.length:Int) -((k+1:Nat):Int):=ak AT AT
    by_cases hlt:(b.length:Int) -((k+1:Nat):Int)<(n:Int)
    ·refine⟨?o,?r,(o0,0,Ae last),tf _ _ ?_,by unfold c9;exact ah g2 (ah p2 (ah hfi (ag hno (bQ k1 (ag A_ (ai hki (ag h10 (aw A_ (ah (Oo last) rfl))))))))),.inr ⟨A6 last,?_⟩⟩
     ·exact⟨w2,true,⟨[]⟩⟩
     ·exact R b ((k+1:Nat):Int) last (Ae last)
     ·have hd:(R b ((k+1:Nat):Int) last (Ae last)).e_≠0:=A6 last
      unfold sT
      refine ah (a:=([],R b ((k+1:Nat):Int) last (Ae last))) ?_ (ah (vZ hd _) (ah (vZ hd _) (bQ (a:=([],R b ((k+1:Nat):Int) last (Ae last))) (ag A_ rfl) (ah a1 (ah a2 rfl)))))
      unfold cN
      exact ag zb (aw A_ (ah (LS b _ last) (ah (zN _ _ _ _) rfl)))
     ·rfl
    ·have w4:ao (((k+1:Nat):Int)+(n:Int))=((k+1+n:Nat):Int):=H_
     have w5:ao (((k+1+n:Nat):Int) -(n:Int))=((k+1:Nat):Int):=H_
     have hkn:k+1+n<=b.length:=AT
     have hby:cN (R b ((k+1:Nat):Int) last 0) (n:Int)=some (part b ((k+1:Nat):Int) ((k+1+n:Nat):Int),R b ((k+1+n:Nat):Int) last 0):=by
      unfold cN
      refine ag zb (ag A_ ?_)
      show aI (0<=ao ((ao (((k+1:Nat):Int)+(n:Int))) -(n:Int))/\ao ((ao (((k+1:Nat):Int)+(n:Int))) -(n:Int))<=ao (((k+1:Nat):Int)+(n:Int))/\ao (((k+1:Nat):Int)+(n:Int))<=b.length) (some (part b (ao ((ao (((k+1:Nat):Int)+(n:Int))) -(n:Int))) (ao (((k+1:Nat):Int)+(n:Int))),R b (ao (((k+1:Nat):Int)+(n:Int))) last 0))=_
      rw[w4,w5]
      exact ai AT rfl
     have hdl:(part b ((k+1:Nat):Int) ((k+1+n:Nat):Int)).length<=b.length:=by
      unfold part
      rw[List.length_take,List.length_drop];omega
     generalize aeN:part b ((k+1:Nat):Int) ((k+1+n:Nat):Int)=dat at hby hdl
     have hu1:jW dat 16777216=some (jH dat 16777216):=by unfold jW;exact ai ⟨AT,BY,BY⟩ rfl
     have hu2:jh dat 16777216=some (jH dat 16777216):=by unfold jh;exact ai ⟨AT,BY,BY⟩ rfl
     have hwd:∀(m:Nat)(hm:m<=b.length)(w:List UInt8),bw (R b (m:Int) last 0) ⟨w⟩=some (R b (pP b last m w).1 last (pP b last m w).2):=fun m hm w=>by
      unfold bw
      exact ag zb (ah (PB hb m hm w) rfl)
     have hq1:=hwd (k+1+n) hkn [101,110,100,115,116,114,101,97,109]
     have hr1:=KP (last:=last) hb (k+1+n) hkn [101,110,100,115,116,114,101,97,109]
     have hs1:=FJ (last:=last) hb (k+1+n) hkn [101,110,100,115,116,114,101,97,109]
     generalize pP b last (k+1+n) [101,110,100,115,116,114,101,97,109]=q1 at hq1 hr1 hs1
     obtain⟨q1,e1⟩:=q1
     dsimp only at hq1 hr1 hs1
     have Kf:∀(z:aM×Int×Int),(if e1 !=0 then some (o0,0,e1)else
      aL (fL b q1 last (aC.mk [101,110,100,111,98,106])) fun r15=>
      if r15.2 !=0 then
       some (o0,0,r15.2)
      else
       nD (
        if p.1 then
         aL (jh dat 16777216) fun r23=>
         if r23.2.2 !=0 then
          some (.inr ((0:Int),(18:Int)))
         else
          some (.inl r23.1)
        else
         some (.inl dat)) (fun(yN:(List UInt8))=>
        aL (fK v (aC.mk [76,101,110,103,116,104])) fun r24=>
        aL (fK r24 (aC.mk [70,105,108,116,101,114])) fun r25=>
        some ((aM.mk r25 true (aC.mk yN)),r15.1,0))
       (fun((t21,t22):Int×Int)=>some (o0,t21,t22)))=some z->c9 b (j:Int) last v=some z:=fun z hz=>by
      unfold c9
      refine ah g2 (ah p2 (ah hfi (ag hno (bQ k1 (ag A_ (ai hki (ag h10 ?_)))))))
      rw[w,w3,hn,w4,aeN]
      exact ag A_ (ai AT (ah hr1 hz))
     by_cases he1:e1=0
     ·subst he1
      obtain⟨j2,rfl,hj2⟩:=hs1 rfl
      have hq2:=hwd j2 hj2 [101,110,100,111,98,106]
      have hr2:=KP (last:=last) hb j2 hj2 [101,110,100,111,98,106]
      generalize pP b last j2 [101,110,100,111,98,106]=q2 at hq2 hr2
      obtain⟨q2,e2⟩:=q2
      dsimp only at hq2 hr2
      by_cases he2:e2=0
      ·subst he2
       cases hpk:p.1 with
       |true=>
        rw[hpk]at tf Kf
        generalize jH dat 16777216=u at hu1 hu2
        obtain⟨x,m,e⟩:=u
        by_cases he:e=0
        ·subst he
         exact⟨_,_,_,tf _ _ (ah hby (ah hq1 (ah hq2 (bQ (a:=(x,R b q2 last 0)) (aw rfl (ah hu1 (bQ (a:=R b q2 last 0) (ag zb rfl) rfl))) (ah a1 (ah a2 rfl)))))),
          Kf _ (ag zb (ah hr2 (ag zb (bH (z:=.inl x) (aw rfl (ah hu2 (ag zb rfl))) (ah c1 (ah c2 rfl)))))),.inl ⟨rfl,rfl,rfl,rfl,hW2⟩⟩
        ·have hn0:(e !=0)=true:=E_
         exact⟨_,_,(o0,0,18),tf _ _ (ah hby (ah hq1 (ah hq2 (bQ (a:=(x,R b q2 last 18)) (aw rfl (ah hu1 (bQ (a:=R b q2 last 18) (aw hn0 (ah (zN _ _ _ _) rfl)) rfl))) (ah a1 (ah a2 rfl)))))),
          Kf _ (ag zb (ah hr2 (ag zb (bH (z:=.inr (0,18)) (aw rfl (ah hu2 (aw hn0 rfl))) rfl)))),.inr ⟨A_,rfl⟩⟩
       |false=>
        rw[hpk]at tf Kf
        exact⟨_,_,_,tf _ _ (ah hby (ah hq1 (ah hq2 (bQ (a:=(dat,R b q2 last 0)) (ag A_ rfl) (ah a1 (ah a2 rfl)))))),
         Kf _ (ag zb (ah hr2 (ag zb (bH (z:=.inl dat) (ag BY rfl) (ah c1 (ah c2 rfl)))))),.inl ⟨rfl,rfl,rfl,rfl,hW2⟩⟩
      ·have hd:(R b q2 last e2).e_≠0:=he2
       exact⟨_,_,(o0,0,e2),tf _ _ (ah hby (ah hq1 (ah hq2 (bQ (a:=(dat,R b q2 last e2)) (ag A_ rfl) (ah a1 (ah a2 rfl)))))),
        Kf _ (ag zb (ah hr2 (aw A_ rfl))),.inr ⟨he2,rfl⟩⟩
     ·have hd:(R b q1 last e1).e_≠0:=he1
      exact⟨_,_,(o0,0,e1),tf _ _ (ah hby (ah hq1 (ah (vZ hd _) (bQ (a:=(dat,R b q1 last e1)) (ag A_ rfl) (ah a1 (ah a2 rfl)))))),
       Kf _ (aw A_ rfl),.inr ⟨he1,rfl⟩⟩
def I7(hb:b.length<1048576)(at_:Int):∃q:Int×Int×Int,fQ b at_ last=some q/\fp b at_ last=some q/\(q.2.2=0->∃j:Nat,q.2.1=(j:Int)/\j<=b.length):=by
 by_cases h:at_<0\/at_>(b.length:Int)
 ·obtain⟨h1,h2⟩:=PQ (last:=last) h
  refine⟨(0,0,2),?_,?_,fun h=>F_⟩
  ·unfold fQ ll
   simp_all
  ·unfold fp
   simp_all
 ·obtain⟨k,rfl⟩:∃k:Nat,at_=k:=⟨at_.toNat,AT⟩
  have hk:k<=b.length:=AT
  exact⟨_,SK hb k hk,TH hb k hk,fun h=>by grind [P1]⟩
def eN(q:Int×Int×Int)(x y:Int):Int:=if(q.2.2==0)&&((decide (q.1<x))||(decide (q.1>y)))then 18 else q.2.2
def Fc{at_:Int}{q:Int×Int×Int}(h:fQ b at_ last=some q)(x y:Int):bU (R b at_ last 0) x y=some (q.1,R b q.2.1 last (eN q x y)):=by
 unfold bU eN
 refine ag zb (ah h (bQ (a:=eN q x y) ?_ rfl))
 grind [eN]
def tl(n:Int)(v:aa)(r:ay):Option (Int×aM×Int×Int):=
 jn (
  aL (bZ r) fun r10=>
  if r10.1 then
   aL (cT r10.2 v) fun r11=>
   some (r11.1,r11.2)
  else
   some (aM.mk v false (aC.mk []),r10.2)) fun((o8,o9):aM×ay)=>
 if o9.e_ !=0 then
  some (0,o0,0,o9.e_)
 else
  some (n,o8,o9.aG.at_,0)
def Bu(n:Int)(v:aa){r:ay}(h:r.e_≠0):tl n v r=some (0,o0,0,r.e_):=by
 unfold tl
 exact bQ (a:=(aM.mk v false (aC.mk []),r)) (ah (aar h) (ag nf rfl)) (aw IN rfl)
def Us:Wd 67 z0:=Wd.leaf rfl
def acU(hb:b.length<1048576){j:Nat}(hj:j<=b.length)(n:Int){v:aa}(hW:Wd 67 v):∃z,tl n v (R b (j:Int) last 0)=some z/\Wd 67 z.2.1.V/\
 (aL (bu b (j:Int) last) fun r5=>
       if r5.2 !=0 then
        some (0,o0,0,r5.2)
       else
        if r5.1.Kind==0 then
         some (0,o0,0,10)
        else
         if(r5.1.Kind==6)&&(r5.1.S.b==(aC.mk [101,110,100,111,98,106]).b)then
          some (n,(aM.mk v false (aC.mk [])),r5.1.To,0)
         else
          if(r5.1.Kind==6)&&(r5.1.S.b==(aC.mk [115,116,114,101,97,109]).b)then
           aL (c9 b r5.1.To last v) fun r6=>
           if r6.2.2 !=0 then
            some (0,o0,0,r6.2.2)
           else
            some (n,r6.1,r6.2.1,0)
          else
           some (0,o0,0,18))=some z:=by
 have hl:=Cu (last:=last) hb j hj
 have hr:=pD (last:=last) hb j hj
 have hg:=GH (last:=last) hb j hj
 generalize jF b last j=q at hl hr hg
 obtain⟨t,e⟩:=q
 dsimp only at hl hr hg
 have str:∀(r':ay)(x:Bool),(jn (
  if e !=0 then
   some (R b t.To last e)
  else
   if t.Kind==0 then
    aL (aY (R b t.To last e) 10) fun r4=>
    some r4
   else
    if(t.Kind !=6)||((!(t.S.b==(aC.mk [101,110,100,111,98,106]).b))&&(!(t.S.b==(aC.mk [115,116,114,101,97,109]).b)))then
     aL (aY (R b t.To last e) 18) fun r5=>
     some r5
    else
     some (R b t.To last e)) fun(o3:ay)=>
  some ((o3.e_==0)&&(t.S.b==(aC.mk [115,116,114,101,97,109]).b),o3))=some (x,r')->bZ (R b (j:Int) last 0)=some (x,r'):=fun r' x h=>by
  unfold bZ
  simp_all
 have dead:∀e2:Int,e2≠0->bZ (R b (j:Int) last 0)=some (false,R b t.To last e2)->tl n v (R b (j:Int) last 0)=some (0,o0,0,e2):=fun e2 he2 h=>by
  unfold tl
  simp_all
 by_cases he:e=0
 ·subst he
  obtain⟨k,hk,_,hkl,_⟩:=hg rfl
  by_cases h0:(t.Kind==0)=true
  ·exact⟨_,dead 10 BY (str _ _ (bQ (a:=R b t.To last 10) (ag zb (aw h0 (ah (zN _ _ _ _) rfl))) rfl)),Us,ah hr (ag zb (aw h0 rfl))⟩
  ·by_cases hE:((t.Kind==6)&&(t.S.b==(aC.mk [101,110,100,111,98,106]).b))=true
   ·obtain⟨k6,kE⟩:=Bool.and_eq_true_iff.1 hE
    have hs:(t.S.b==(aC.mk [115,116,114,101,97,109]).b)=false:=by rw[eq_of_beq kE];decide
    refine⟨(n,aM.mk v false (aC.mk []),t.To,0),?_,hW,ah hr (ag zb (ag h0 (aw hE rfl)))⟩
    unfold tl
    simp_all
   ·by_cases hSt:((t.Kind==6)&&(t.S.b==(aC.mk [115,116,114,101,97,109]).b))=true
    ·obtain⟨k6,kS⟩:=Bool.and_eq_true_iff.1 hSt
     have ae2:bZ (R b (j:Int) last 0)=some (true,R b t.To last 0):=by
      refine str _ _ (bQ (a:=R b t.To last 0) (ag zb (ag h0 (ag ?_ rfl))) ?_)
      ·grind
      ·grind
     rw[hk]at ae2
     obtain⟨o,r',x,s1,s2,s3⟩:=NC (last:=last) hb hkl hW
     rcases s3 with⟨x0,r0,ox,ax,oW⟩|⟨x0,r0⟩
     ·refine⟨(n,x.1,x.2.1,0),?_,A_,ah hr (ag zb (ag h0 (ag hE (aw hSt (ah (by show c9 b t.To last v=_;grind) (ag A_ rfl))))))⟩
      unfold tl
      simp_all
     ·refine⟨(0,o0,0,x.2.2),?_,Us,ah hr (ag zb (ag h0 (ag hE (aw hSt (ah (by show c9 b t.To last v=_;grind) (aw A_ rfl))))))⟩
      unfold tl
      simp_all
    ·refine⟨_,dead 18 BY (str _ _ (bQ (a:=R b t.To last 18) (ag zb (ag h0 (aw ?_ (ah (zN _ _ _ _) rfl)))) rfl)),Us,ah hr (ag zb (ag h0 (ag hE (ag hSt rfl))))⟩
     grind
 ·have hn:(e !=0)=true:=E_
  refine⟨_,dead e he (str _ _ (bQ (a:=R b t.To last e) (aw hn rfl) ?_)),Us,ah hr (aw hn rfl)⟩
  grind
def NI(hb:b.length<1048576){k:Nat}(hk:k<=b.length):∃r,pC b (k:Int) last=some r/\gN b (k:Int) last=some r/\Wd 67 r.1/\(r.2.2=0->∃j:Nat,r.2.1=(j:Int)/\j<=b.length):=by
 have aeJ:130<=HF:=BY
 by_cases hok:(jF b last k).2=0
 ·obtain⟨v,to,e,hr,⟨h1,h2⟩,h9⟩:=(NV (last:=last) hb _ k hk (Nat.le_refl _)).1 [] HF BY rfl (Nat.zero_le _) (fun h=>F_) A_ hok
  have hR:gN b (k:Int) last=some (v,to,e):=by
   unfold gN
   exact ah (pD hb k hk) (ag A_ (ah hr rfl))
  by_cases he:e=0
  ·obtain⟨j,rfl,hj1,hj2,h3⟩:=h2 he
   obtain⟨m,hm,cG⟩:=h3 0 (v,(j:Int),0) rfl
   subst he
   exact⟨_,cG.iter AT,hR,h9 rfl,fun _=>⟨j,rfl,hj2⟩⟩
  ·obtain⟨rfl,rfl,m,hm,cG⟩:=h1 he
   exact⟨_,cG.iter AT,hR,Wd.leaf rfl,fun h=>absurd h he⟩
 ·refine⟨(zV,0,(jF b last k).2),(kz.stop (m:=0) (LP hb hk BY hok)).iter BY,?_,Wd.leaf rfl,fun h=>absurd h hok⟩
  unfold gN
  exact ah (pD hb k hk) (aw A_ rfl)
def Kb(hb:b.length<1048576)(at_:Int):∃z,gI b at_ last=some z/\iW b at_ last=some z/\Wd 67 z.2.1.V:=by
 have unf:∀{r1 r2:Int×ay}{r3:ay}{r4:aa×ay}{z:Int×aM×Int×Int},bU (R b at_ last 0) 1 4096=some r1->bU r1.2 0 0=some r2->bw r2.2 (aC.mk [111,98,106])=some r3->c7 r3=some r4->tl r1.1 r4.1 r4.2=some z->gI b at_ last=some z:=fun h1 h2 h3 h4 h5=>by
  unfold gI
  exact ah h1 (ah h2 (ah h3 (ah h4 (ah rfl h5))))
 obtain⟨q1,l1,r1,g1⟩:=I7 (last:=last) hb at_
 have n1:=Fc l1 1 4096
 by_cases hd1:eN q1 1 4096=0
 ·have h1:q1.2.2=0/\((decide (q1.1<1))||(decide (q1.1>4096)))=false:=by
   unfold eN at hd1
   split at hd1
   ·cases hd1
   ·grind
  rw[hd1]at n1
  obtain⟨k1,e1,hk1⟩:=g1 h1.1
  obtain⟨q2,l2,r2,g2⟩:=I7 (last:=last) hb (k1:Int)
  rw[e1]at n1
  have n2:=Fc l2 0 0
  have down:∀z,(if q2.2.2 !=0 then some (0,o0,0,q2.2.2)
   else
    if q2.1 !=0 then
     some (0,o0,0,18)
    else
     aL (fL b q2.2.1 last (aC.mk [111,98,106])) fun r3=>
     if r3.2 !=0 then
      some (0,o0,0,r3.2)
     else
      aL (gN b r3.1 last) fun r4=>
      if r4.2.2 !=0 then
       some (0,o0,0,r4.2.2)
      else
       aL (bu b r4.2.1 last) fun r5=>
       if r5.2 !=0 then
        some (0,o0,0,r5.2)
       else
        if r5.1.Kind==0 then
         some (0,o0,0,10)
        else
         if(r5.1.Kind==6)&&(r5.1.S.b==(aC.mk [101,110,100,111,98,106]).b)then
          some (q1.1,(aM.mk r4.1 false (aC.mk [])),r5.1.To,0)
         else
          if(r5.1.Kind==6)&&(r5.1.S.b==(aC.mk [115,116,114,101,97,109]).b)then
           aL (c9 b r5.1.To last r4.1) fun r6=>
           if r6.2.2 !=0 then
            some (0,o0,0,r6.2.2)
           else
            some (q1.1,r6.1,r6.2.1,0)
          else
           some (0,o0,0,18))=some z->iW b at_ last=some z:=fun z h=>by
   unfold iW
   refine ah r1 (ag A_ (ag A_ ?_))
   rw[e1]
   exact ah r2 h
  by_cases hd2:eN q2 0 0=0
  ·have h2:q2.2.2=0/\q2.1=0:=by
    unfold eN at hd2
    split at hd2
    ·cases hd2
    ·grind
   rw[hd2]at n2
   obtain⟨k2,e2,hk2⟩:=g2 h2.1
   rw[e2]at n2
   rw[e2]at down
   have w3:bw (R b (k2:Int) last 0) (aC.mk [111,98,106])=some (R b (pP b last k2 [111,98,106]).1 last (pP b last k2 [111,98,106]).2):=by
    unfold bw
    exact ag zb (ah (PB hb k2 hk2 _) rfl)
   have r3:=KP (last:=last) hb k2 hk2 [111,98,106]
   have g3:=FJ (last:=last) hb k2 hk2 [111,98,106]
   generalize pP b last k2 [111,98,106]=q3 at w3 r3 g3
   obtain⟨q3,e3⟩:=q3
   dsimp only at w3 r3 g3
   have UM:=fun z h=>down z (ag A_ (ag A_ (ah r3 h)))
   by_cases hd3:e3=0
   ·subst hd3
    obtain⟨k3,rfl,hk3⟩:=g3 rfl
    obtain⟨q4,l4,r4,W4,g4⟩:=NI (last:=last) hb hk3
    have v4:c7 (R b (k3:Int) last 0)=some (q4.1,R b q4.2.1 last q4.2.2):=by
     unfold c7
     exact ag zb (ah l4 rfl)
    have aat:=fun z h=>UM z (ag zb (ah r4 h))
    by_cases hd4:q4.2.2=0
    ·obtain⟨k4,e4,hk4⟩:∃k:Nat,q4.2.1=k/\k<=b.length:=g4 hd4
     rw[hd4,e4]at v4
     obtain⟨z,t1,t2,t3⟩:=acU (last:=last) hb hk4 q1.1 W4
     grind
    ·have hd:(R b q4.2.1 last q4.2.2).e_≠0:=hd4
     exact⟨_,unf n1 n2 w3 v4 (Bu _ _ hd),aat _ (aw A_ rfl),Us⟩
   ·have hd:(R b q3 last e3).e_≠0:=hd3
    exact⟨_,unf n1 n2 w3 (Ou hd) (Bu _ _ hd),UM _ (aw A_ rfl),Us⟩
  ·have hd:(R b q2.2.1 last (eN q2 0 0)).e_≠0:=hd2
   refine⟨_,unf n1 n2 (vZ hd _) (Ou hd) (Bu _ _ hd),down _ ?_,Us⟩
   by_cases h2:q2.2.2=0
   ·have h3:q2.1≠0:=fun h3=>hd2 (by grind [eN])
    refine ag A_ (aw A_ ?_)
    unfold eN
    grind
   ·refine aw A_ ?_
    unfold eN
    grind
 ·have hd:(R b q1.2.1 last (eN q1 1 4096)).e_≠0:=hd1
  refine⟨_,unf n1 (aaq hd 0 0) (vZ hd _) (Ou hd) (Bu _ _ hd),?_,Us⟩
  unfold iW
  refine ah r1 ?_
  by_cases h1:q1.2.2=0
  ·have:((decide (q1.1<1))||(decide (q1.1>4096)))=true:=by
    unfold eN at hd1
    rw[h1]at hd1
    by_cases hc:((decide (q1.1<1))||(decide (q1.1>4096)))=true
    ·exact hc
    ·grind
   refine ag A_ (aw this ?_)
   grind [eN]
  ·refine aw A_ ?_
   unfold eN
   grind
end
end Fq
end Go.AB
end
section
namespace Go.AB
open Go Go.AB.Fq
theorem qz:iU=some true:=C_
def rN(b:List UInt8)(at_:Int)(last:Bool):gL b at_ last=some true:=by
 have w:(aL iU fun r3=>some r3)=some true:=by rw[qz];rfl
 unfold gL
 by_cases h:decide ((b.length:Int)>400)=true
 ·exact aw h w
 ·have hb:b.length<1048576:=by
   have:¬(b.length:Int)>400:=IN
   omega
  obtain⟨z,z1,z2,z3⟩:=Kb (last:=last) hb at_
  have hs:jT z.2.1 z.2.1=some true:=by
   unfold jT
   refine ah (No z3) ?_
   simp
  refine ag h (ah z1 (ah z2 (ah (a:=true) ?_ (ah (a:=true) ?_ ?_))))
  ·rw[show(z.1==z.1)=true by simp];exact hs
  ·rw[show((((z.1==z.1)&&true)&&(z.2.2.1==z.2.2.1))&&(z.2.2.2==z.2.2.2))=true by simp,qz];rfl
  ·rw[show((((z.1==z.1)&&true)&&(z.2.2.1==z.2.2.1))&&(z.2.2.2==z.2.2.2))=true by simp];rfl
end Go.AB
end
section
namespace Go.AB
open Go Go.RowKit Go.ChangeShapes Go.WideShapes
def vR(N:Nat)(w:World)(b:Nat):Nat:=if b<w.heap.size then N else 0
def Kq{P:Program}{w:World}{f:FuncId}{args:List AV}{vs:Array Value}(N:Nat)(hf:FN P f args SY fun rs _=>rs=[.bool true])(ha:vp w (vR N w) args vs):
 Calls P f vs w fun e w'=>e=.returned (.bool true)/\Below w.heap.size w w':=by
 refine(hf ⟨vR N w,fun _=>.none⟩ w vs ⟨fun _ _=>rfl,fun b hb=>?_⟩ (fun b=>.inl rfl) (fun b o h=>F_) ha).mono fun e w'⟨v,rs,s',G',he,hq,_,_,hr,hp⟩=>?_
 ·show vR N w b=0
  unfold vR
  grind
 ·subst hq
  refine⟨?_,⟨hp.os,hp.tape,hp.output,hp.size,fun b hb=>hp.frame b hb (.inr rfl)⟩⟩
  rw[he]
  have:=VR.m9 hr.1
  rw[this]
def Mr(w:World)(R:Nat->Nat)(as1:List AV)(cs:List Value):Prop:=cs.length=as1.length/\∀(j:Nat)(a:AV)(v:Value),as1[j]? =some a->cs[j]? =some v->VR w R a v
def Mr.one{w:World}{R:Nat->Nat}{a:AV}{v:Value}(h:VR w R a v):Mr w R [a] [v]:=by
 refine⟨rfl,fun j a' v' h1 h2=>?_⟩
 grind
def yJ(P:Program)(t:TypeId){α:Type}(n:Nat)(C:α->List AV)(wf:α->Prop):Prop:=
 ∀(H:Type)(enc:TypeId×Value->H)(w:World)(fuel:Nat)(cs:List Value)(x:DataW H×List MemPlace),DataW.trod enc P w 0 (fun _=>true) true fuel t cs=some x->
  cs.length=n/\∃a:α,wf a/\Fl (C a)/\∃N0,∀N,N0<=N->Mr w (vR N w) (C a) cs
def HC(P:Program)(t:TypeId)(α:Type)[bz α](wf:α->Prop):Prop:=yJ P t (bz.w α) (bz.cells:α->List AV) wf
section
variable{P:Program}{t:TypeId}
def BW{a:AV}(h:ql a=true):Fl [a]:=by
 intro c hc
 grind
def M9(ht:P.underlying t=some (.int .i64)):HC P t Int fun n=>-9223372036854775808<=n/\n<=9223372036854775807:=by
 intro H enc w fuel cs x h
 obtain⟨n,rfl,_,hw⟩:=DataW.trod_int ht h
 refine⟨rfl,n,?_,BW rfl,0,fun N _=>Mr.one (.int _ n)⟩
 grind [Lit.wf,IntKind.min,IntKind.max,IntKind.signed,IntKind.bits]
def P6(ht:P.underlying t=some (.int .u8)):HC P t UInt8 fun _=>True:=by
 intro H enc w fuel cs x h
 obtain⟨n,rfl,_,hw⟩:=DataW.trod_int ht h
 have hb:0<=n/\n<=255:=by simpa[Lit.wf,IntKind.min,IntKind.max,IntKind.signed,IntKind.bits]using hw
 refine⟨rfl,UInt8.ofNat n.toNat,trivial,BW rfl,0,fun N _=>?_⟩
 have e:((UInt8.ofNat n.toNat).toNat:Int)=n:=by rw[UInt8.toNat_ofNat'];omega
 show Mr _ _ [.int .u8 ((UInt8.ofNat n.toNat).toNat:Int)] _
 rw[e]
 exact Mr.one (.int _ n)
def zH{α:Type}{Q:Nat->α->Prop}:∀n:Nat,(∀i,i<n->∃a,Q i a)->∃l:List α,l.length=n/\∀(i:Nat)(a:α),l[i]? =some a->Q i a
 |0,_=>⟨[],rfl,fun i a h=>by simp at h⟩
 |n+1,h=>by
  obtain⟨l,h1,h2⟩:=zH n fun i hi=>h i AT
  obtain⟨a,ha⟩:=h n AT
  refine⟨l++[a],by simp[h1],fun i x hx=>?_⟩
  grind
def common{Q:Nat->Nat->Prop}:∀n:Nat,(∀i,i<n->∃N0,∀N,N0<=N->Q i N)->∃N0,∀N,N0<=N->∀i,i<n->Q i N
 |0,_=>⟨0,fun _ _ i h=>absurd h (Nat.not_lt_zero i)⟩
 |n+1,h=>by
  obtain⟨a,ha⟩:=common n fun i hi=>h i AT
  obtain⟨b,hb⟩:=h n AT
  refine⟨max a b,fun N hN i hi=>?_⟩
  grind
def OQ{α:Type}[bz α](l:List α){i r:Nat}{a:α}(hi:l[i]? =some a)(hr:r<bz.w α):(flat l)[i*bz.w α+r]? =(bz.cells a)[r]? :=by
 have h1:=qn l (bz.w α) i 1 rfl
 obtain⟨hlt,he⟩:=List.getElem?_eq_some_iff.1 hi
 have h2:(l.drop i).take 1=[a]:=by rw[List.drop_eq_getElem_cons hlt,he];rfl
 rw[h2,lf,s6,List.append_nil,Nat.one_mul]at h1
 rw[<-h1]
 unfold AB.sub
 grind
end
end Go.AB
end
section
namespace Go.AB
open Go Go.RowKit Go.ChangeShapes Go.WideShapes
section
variable{P:Program}
theorem vJ{H:Type}{enc:TypeId×Value->H}(hl:laidOutB P=true){W W':World}(hb:Below W.heap.size W W'):
 ∀{ts:List TypeId}{vs:List Value}{ds:List (DataW H)}{ps:List MemPlace},(∀t∈ts,P.readableRec t=true/\t<P.types.size)->DataW.TrodAll enc P W 0 (fun _=>true) true ts vs ds ps->
  DataW.TrodAll enc P W' 0 (fun b=>decide (b<W.heap.size)) true ts vs ds ps
 |[],[],[],_,_,h=>h
 |t::ts,v::vs,d::ds,_,hr,h=>by
  have hlt:=h.lt
  obtain⟨p,q,h1,h2,rfl⟩:=h
  have ht:=hr t List.mem_cons_self
  exact⟨p,q,Below.trod hl ht.1 ht.2 h1 hb fun x hx=>hlt x (List.mem_append_left _ hx),vJ hl hb (fun t ht=>hr t (List.mem_cons_of_mem _ ht)) h2,rfl⟩
 |[],_::_,_,_,_,h=>h.elim
 |[],[],_::_,_,_,h=>h.elim
 |_::_,[],_,_,_,h=>h.elim
 |_::_,_::_,[],_,_,h=>h.elim
def PC{H:Type}{enc:TypeId×Value->H}{fn:Func}{s:ChangeSpec}{f:FuncId}{W:World}{args:Array Value}{ds gs:List (DataW H)}{before:List MemPlace}{tb:TypeId}
 (U5:s.vars=[])(kC:fn.resultTypes= #[tb])(htb:P.underlying tb=some .bool)(hl:laidOutB P=true)(hr:∀t∈fn.params.toList,P.readableRec t=true/\t<P.types.size)
 (aaU:∀ds:List (DataW H),ds.length=fn.params.toList.length->s.fn H ds={results:=[.lit (.bool true)],args:=ds})
 (hW:DataW.Whole enc P fn.params.toList s.vars false W args.toList ds gs before)
 (hc:Calls P f args W fun e w'=>e=.returned (.bool true)/\Below W.heap.size W w'):
 Calls P f args W fun e W'=>∃v,e=.returned v/\s.post enc P fn false true false false W args v W':=by
 refine hc.mono fun e W'⟨he,hb⟩=>⟨.bool true,he,?_⟩
 have hW':=hW
 obtain⟨p,q,hA,hV,rfl,hfz,hnd⟩:=hW
 rw[U5]at hV
 obtain⟨rfl,rfl⟩:=trodVars_none hV
 have hs:=aaU ds (trodAll_length hA).2
 refine⟨ds,[],_,[],p,[],hW',?_,?_,?_,?_,fun h=>F_⟩
 ·rw[List.append_nil,hs,kC]
  exact trodAll_mk1 (shut_bool htb true)
 ·grind [vJ]
 ·rw[List.append_nil,hs,U5]
  exact rfl
 ·exact World.keptBut_mono (fun p hp=>hp.elim) (hb.frame fun _=>False)
section
variable{H:Type}{enc:TypeId×Value->H}{w:World}{t:TypeId}{α:Type}[bz α]{wf:α->Prop}{b0:Nat}{v:Value}{d:DataW H}{ps:List MemPlace}
def KD(hs:∀cs,v≠.agg cs)(he:HC P t α wf)(h:DataW.Trod enc P w 0 (fun _=>true) true t v d ps):
 ∃a:α,wf a/\∃N0,∀N,N0<=N->Mr w (vR N w) (bz.cells a) [v]:=by
 obtain⟨fuel,hf⟩:=h
 obtain⟨_,a,ha,_,N0,hN⟩:=he H enc w fuel _ _ hf
 refine⟨a,ha,N0,fun N h=>?_⟩
 have h1:=hN N h
 have:v.cells.toList=[v]:=by cases v<;>first|rfl|grind
 grind
theorem Mr.head{R:Nat->Nat}{a:AV}(h:Mr w R [a] [v]):VR w R a v:=h.2 0 a v rfl rfl
def P4(ht:P.underlying t=some (.int .i64))(rF:Value.okWide P w .any b0 t v)(h:DataW.Trod enc P w 0 (fun _=>true) true t v d ps):
 ∃n:Int,(-9223372036854775808<=n/\n<=9223372036854775807)/\∃N0,∀N,N0<=N->VR w (vR N w) (.int .i64 n) v:=by
 obtain⟨n,rfl,_⟩:=open_int ht rF h
 obtain⟨a,ha,N0,hN⟩:=KD (fun _ h=>F_) (M9 ht) h
 exact⟨a,ha,N0,fun N h=>(hN N h).head⟩
def KE(ht:P.underlying t=some .bool)(rF:Value.okWide P w .any b0 t v)(h:DataW.Trod enc P w 0 (fun _=>true) true t v d ps):
 ∃b:Bool,True/\∃N0,∀N,N0<=N->VR w (vR N w) (.bool b) v:=by
 obtain⟨n,rfl,_⟩:=open_bool ht rF h
 exact⟨n,trivial,0,fun N _=>.bool n⟩
end
def Z5{w:World}{R:Nat->Nat}{a0 a1 a2:AV}{v0 v1 v2:Value}(h0:VR w R a0 v0)(h1:VR w R a1 v1)(h2:VR w R a2 v2):vp w R [a0,a1,a2] #[v0,v1,v2]:=⟨rfl,fun j a v k1 k2=>A_⟩
end
end Go.AB
end
section
namespace Go.AB
open Go
end Go.AB
end
section
namespace Go.AB
open Go Go.RowKit Go.ChangeShapes Go.WideShapes
def rf(K:Nat)(P:Program)(t:TypeId){α:Type}(n:Nat)(C:α->List AV)(wf:α->Prop):Prop:=
 ∀(H:Type)(enc:TypeId×Value->H)(w:World)(fuel:Nat)(cs:List Value)(x:DataW H×List MemPlace),fuel<=K->DataW.trod enc P w 0 (fun _=>true) true fuel t cs=some x->
  cs.length=n/\∃a:α,wf a/\Fl (C a)/\∃N0,∀N,N0<=N->Mr w (vR N w) (C a) cs
section
variable{P:Program}{t:TypeId}
theorem yJ.b{n:Nat}{α:Type}{C:α->List AV}{wf:α->Prop}(h:yJ P t n C wf)(K:Nat):rf K P t n C wf:=fun H enc w fuel cs x _ hx=>h H enc w fuel cs x hx
def rf.all{n:Nat}{α:Type}{C:α->List AV}{wf:α->Prop}(h:∀K,rf K P t n C wf):yJ P t n C wf:=fun H enc w fuel cs x hx=>h fuel H enc w fuel cs x (Nat.le_refl _) hx
def rf.le{n:Nat}{α:Type}{C:α->List AV}{wf:α->Prop}{K K':Nat}(h:rf K P t n C wf)(hk:K'<=K):rf K' P t n C wf:=fun H enc w fuel cs x hf hx=>h H enc w fuel cs x (Nat.le_trans hf hk) hx
def KV{w:World}{α:Type}[bz α]{wf:α->Prop}{a:Addr}{len cap:Nat}(hl:len<=cap)(hm:cap<=maxLen)
 (each:∀i,i<len->∃x:α×List Value,wf x.1/\Fl (bz.cells x.1)/\w.cells? 0 (a.add (i*bz.w α)) (bz.w α)=some x.2/\∃N0,∀N,N0<=N->Mr w (vR N w) (bz.cells x.1) x.2):
 ∃l:List α,(l.length<=maxLen/\∀a∈l,wf a)/\Fl [.sl false (bz.w α) l.length (flat l)]/\∃N0,∀N,N0<=N->Mr w (vR N w) [.sl false (bz.w α) l.length (flat l)] [.slice (some a) len cap]:=by
 have hw:0<bz.w α:=bz.pos
 rcases Nat.eq_zero_or_pos len with h0|h0
 ·subst h0
  exact⟨[],⟨Nat.zero_le _,fun _ h=>absurd h List.not_mem_nil⟩,BW rfl,0,fun N _=>.one (.sle _ _ _)⟩
 obtain⟨b,off,spot⟩:=a
 have WL:spot=none/\b<w.heap.size:=by
  obtain⟨x,_,_,h2,_⟩:=each 0 h0
  obtain⟨_,h3,h4⟩:=World.cells?_some h2
  have h5:=h4 0 hw
  have hxl:0<x.2.length:=AT
  rw[List.getElem?_eq_getElem hxl]at h5
  unfold World.cell? at h5
  have e1:(((⟨b,off,spot⟩:Addr).add (0*bz.w α)).add 0).block=b:=by
   unfold Addr.add;repeat' split
   all_goals rfl
  have e2:(((⟨b,off,spot⟩:Addr).add (0*bz.w α)).add 0).spot.isSome=spot.isSome:=by
   cases spot with
   |none=>unfold Addr.add;repeat' split
          all_goals simp_all
   |some q=>unfold Addr.add;repeat' split
            all_goals simp_all
  rw[e1,e2]at h5
  split at h5
  ·rename_i hh
   refine⟨?_,(Array.getElem?_eq_some_iff.1 hh).1⟩
   cases spot with
   |none=>rfl
   |some q=>simp at h5
  ·cases h5
 obtain⟨rfl,hb⟩:=WL
 obtain⟨L,hL,hQ⟩:=zH len each
 have hx:∀i,i<len->∃x,L[i]? =some x:=fun i hi=>⟨L[i]' AT,List.getElem?_eq_getElem AT⟩
 obtain⟨N0,hN0⟩:=common (Q:=fun i N=>∀x,L[i]? =some x->Mr w (vR N w) (bz.cells x.1) x.2) len fun i hi=>by
  obtain⟨x,hx⟩:=hx i hi
  obtain⟨_,_,_,N0,h⟩:=hQ i x hx
  exact⟨N0,fun N hN y hy=>by rw[hx]at hy;cases hy;exact h N hN⟩
 have hwf:∀a∈L.map (·.1),wf a/\Fl (bz.cells a):=by
  intro a ha
  obtain⟨x,hx,rfl⟩:=List.mem_map.1 ha
  obtain⟨i,hi⟩:=List.getElem?_of_mem hx
  have:=hQ i x hi
  exact⟨this.1,this.2.1⟩
 have DY:∀(j:Nat)(c:AV),(flat (L.map (·.1)))[j]? =some c->∃v,w.cell? ⟨b,off+j,none⟩=some v/\∀N,N0<=N->VR w (vR N w) c v:=by
  intro j c hj
  have hjl:=(List.getElem?_eq_some_iff.1 hj).1
  rw[a8,List.length_map,hL]at hjl
  have hi:j/bz.w α<len:=Nat.div_lt_of_lt_mul (by rw[Nat.mul_comm];exact hjl)
  have hr:j % bz.w α<bz.w α:=Nat.mod_lt _ hw
  have hje:j=j/bz.w α*bz.w α+j % bz.w α:=by rw[Nat.mul_comm];exact(Nat.div_add_mod _ _).symm
  obtain⟨x,hx⟩:=hx _ hi
  have h1:=OQ (L.map (·.1)) (i:=j/bz.w α) (a:=x.1) (by rw[List.getElem?_map,hx];rfl) hr
  rw[<-hje,hj]at h1
  obtain⟨_,_,h2,_⟩:=hQ _ x hx
  obtain⟨_,h3,h4⟩:=World.cells?_some h2
  have h5:=h4 _ hr
  rw[add_plain,add_plain,Nat.add_assoc,<-hje]at h5
  refine⟨x.2[j % bz.w α]' AT,by rw[h5,List.getElem?_eq_getElem],fun N hN=>?_⟩
  exact(hN0 N hN _ hi x hx).2 _ _ _ h1.symm (List.getElem?_eq_getElem _)
 refine⟨L.map (·.1),⟨by rw[List.length_map,hL];omega,fun a ha=>(hwf a ha).1⟩,BW rfl,max N0 (off+len*bz.w α),fun N hN=>.one ?_⟩
 rw[List.length_map,hL]
 refine .sl false (bz.w α) len _ b off cap (fun j=>(w.cell? ⟨b,off+j,none⟩).getD default) ?_ ?_ ?_ hl ?_ ?_
 ·intro c hcm
  unfold flat at hcm
  obtain⟨l,hl,hcl⟩:=List.mem_flatten.1 hcm
  obtain⟨a,ha,rfl⟩:=List.mem_map.1 hl
  exact(hwf a ha).2 c hcl
 ·rw[a8,List.length_map,hL]
 ·rw[a8,List.length_map,hL]
  unfold vR
  rw[if_pos hb];omega
 ·intro j c hj
  obtain⟨v,h1,_⟩:=DY j c hj
  rw[h1];rfl
 ·intro j c hj
  obtain⟨v,h1,h2⟩:=DY j c hj
  simp only[h1,Option.getD_some];exact h2 N AT
def GL{K:Nat}{e:TypeId}{α:Type}[bz α]{wf:α->Prop}(ht:P.underlying t=some (.slice e))(hc:P.cellsOf e=bz.w α)(he:rf K P e (bz.w α) (bz.cells:α->List AV) wf):
 rf (K+1) P t 1 (fun l:List α=>[.sl false (bz.w α) l.length (flat l)]) fun l=>l.length<=maxLen/\∀a∈l,wf a:=by
 intro H enc w fuel cs x hk h
 rcases DataW.trod_slice ht h with⟨rfl,_⟩|⟨a,len,cap,elems,rest,n,rfl,rfl,_,_,hl,hm,hlen,hel,_⟩
 ·exact⟨rfl,[],⟨Nat.zero_le _,fun _ h=>absurd h List.not_mem_nil⟩,BW rfl,0,fun N _=>.one (.slnil _ _)⟩
 ·refine⟨rfl,KV hl hm fun i hi=>?_⟩
  have h1:=hel i hi
  rw[hc,List.getElem?_eq_getElem AT,Option.bind_eq_some_iff]at h1
  obtain⟨cs,h2,h3⟩:=h1
  obtain⟨_,x,h4,h5,h6⟩:=he H enc w n cs _ AT h3
  exact⟨(x,cs),h4,h5,h2,h6⟩
def GM{e:TypeId}{α:Type}[bz α]{wf:α->Prop}(ht:P.underlying t=some (.slice e))(hc:P.cellsOf e=bz.w α)(he:HC P e α wf):
 yJ P t 1 (fun l:List α=>[.sl false (bz.w α) l.length (flat l)]) fun l=>l.length<=maxLen/\∀a∈l,wf a:=
 rf.all fun K=>(GL ht hc (yJ.b he K)).le (Nat.le_succ K)
def okWide_slice{w:World}{e:TypeId}{b0:Nat}{v:Value}(ht:P.underlying t=some (.slice e))(rF:Value.okWide P w .any b0 t v):∀cs,v≠.agg cs:=by
 intro cs h
 subst h
 unfold Value.okWide Cell.okWide Cell.ok at rF
 rw[ht]at rF
 exact rF
def P5{H:Type}{enc:TypeId×Value->H}{w:World}{e:TypeId}{α:Type}[bz α]{wf:α->Prop}{v:Value}{d:DataW H}{ps:List MemPlace}
 (ht:P.underlying t=some (.slice e))(hc:P.cellsOf e=bz.w α)(he:HC P e α wf)(h:DataW.Trod enc P w 0 (fun _=>true) true t v d ps)(hv:∀cs,v≠.agg cs):
 ∃l:List α,(l.length<=maxLen/\∀a∈l,wf a)/\∃N0,∀N,N0<=N->VR w (vR N w) (.sl false (bz.w α) l.length (flat l)) v:=by
 obtain⟨fuel,hf⟩:=h
 obtain⟨_,l,hl,_,N0,hN⟩:=GM ht hc he H enc w fuel _ _ hf
 have oA:v.cells.toList=[v]:=by cases v<;>first|rfl|exact absurd rfl (hv _)
 refine⟨l,hl,N0,fun N h=>?_⟩
 have:=hN N h
 rw[oA]at this
 exact this.head
end
end Go.AB
end
section
namespace Go.AB
open Go Go.ChangeShapes Go.WideShapes Go.ChangeAt Go.RowKit Go.Proofs.YtplacgnfinmfbaaGreatDoor Go.Proofs
open Go.Proofs.Tryz (prog)
def sD:ownKnob Tryz.prog.godebug=none:=C_
def rM:laidOutB Tryz.prog=true:=C_
def tz:Tryz.prog.underlying 4=some .bool:=C_
set_option maxRecDepth 100000 in
def sC{H:Type}{enc:TypeId×Value->H}{W:World}{base:Nat}{args:Array Value}{ds gs:List (DataW H)}{before:List MemPlace}
 (aaW:∀(j:Nat) t v,Tryz.f3.params[j]? =some t->args[j]? =some v->Value.okWide Tryz.prog W .any base t v)
 (hW:DataW.Whole enc Tryz.prog Tryz.f3.params.toList Rows.frameParsesSpec.vars false W args.toList ds gs before):
 Calls Tryz.prog 3 args W fun e w'=>e=.returned (.bool true)/\Below W.heap.size W w':=by
 obtain⟨p,q,hA0,hV,rfl,hfz,hnd⟩:=hW
 have rF:=aaW
 have hA:DataW.TrodAll enc Tryz.prog W 0 (fun _=>true) true Tryz.f3.params.toList args.toList ds p:=hA0
 have hp:Tryz.f3.params= #[22,3,4]:=C_
 rw[hp]at hA rF
 obtain⟨v0,v1,v2,d0,d1,d2,p0,p1,p2,rfl,rfl,rfl,h0,h1,h2⟩:=trodAll_three hA
 obtain⟨x0,w0,N0,k0⟩:=P5 C_ C_ (P6 (P:=prog) (t:=5) C_) h0 (okWide_slice (e:=5) C_ (rF 0 22 v0 rfl rfl))
 obtain⟨x1,w1,N1,k1⟩:=P4 C_ (rF 1 3 v1 rfl rfl) h1
 obtain⟨x2,w2,N2,k2⟩:=KE C_ (rF 2 4 v2 rfl rfl) h2
 refine Kq (max N0 (max N1 N2)) ?_ (Z5 (k0 _ AT) (k1 _ AT) (k2 _ AT))
 exact(tv (rN x0 x1 x2)).app rfl
end Go.AB
namespace Go.Proofs.YtplacgnfinmfbaaGreatDoor
open Go.ChangeShapes Go.WideShapes Go.ChangeAt Go.RowKit Go.Proofs.YtplacgnfinmfbaaGreatDoor.Rows Go.Proofs.Tryz
set_option maxRecDepth 100000 in
theorem wj(os:Os)(u:os.Started)(H:Type)(enc:TypeId×Value->H):
 ReturnsInHanded {} checked os 3 .any (fun w args=>(frameParsesSpec.pre enc prog f3 [] false w args/\laidMetH prog frameParsesRow.laid w)/\sizedMet enc prog f3 (OpenSpec.ofChange frameParsesSpec) false w args)
  (frameParsesSpec.post enc prog f3 false true false false):=by
 refine returnsInHanded_of_change_and (C:=checked) (X:=fun w _=>laidMetH prog frameParsesRow.laid w) (fun _ _ _ hh h=>h.of_heap hh) AB.sD u (by kernel_rfl) func3
  (ChangeSpec.witness_shaped (enc:=enc) (C:=checked) (os:=os) (X:=fun w _=>laidMetH prog frameParsesRow.laid w) false (World.laidAll prog os frameParsesRow.laid) #[.slice none 0 0,.int .i64 0,.bool false] 8 (World.laidAll_os _ _ _)
    (World.shaped_of_ZipB (by kernel_rfl) (by kernel_rfl)) (by kernel_rfl) (by kernel_rfl) (by kernel_rfl)
    (by rw[MakeChecks.laidMetH_plain _ _ _ (by kernel_rfl)];exact laidMet_laidAll _ (by kernel_rfl) (by kernel_rfl))) ?_
 intro W base args ds gs before rF hW _ _ _ _
 exact AB.PC rfl (by kernel_rfl) AB.tz AB.rM (of_decide_eq_true (by kernel_rfl)) (fun ds h=>by
  match ds,h with
  |[_,_,_],_=>rfl) hW (AB.sC rF hW)
theorem gk{a b:Bool}(h:a=true)(k:b=true):(a&&b)=true:=by rw[h,k];rfl
def B3:(frameParsesRow.wf (OpenSpec.ofChange frameParsesSpec))=true:=by kernel_rfl
def B4:(laidOutB checked.prog)=true:=by kernel_rfl
def B5:(mapsRowed checked.prog)=true:=by kernel_rfl
def B6:(f3.params.all (checked.prog.readableRec ·))=true:=by kernel_rfl
def B7:(namedTie checked.prog frameParsesRow.named frameParsesSpec.vars)=true:=by kernel_rfl
def B8:(frameParsesRow.stops==[])=true:=by kernel_rfl
def B9:(checked.prog.stops==[])=true:=by kernel_rfl
def Ca:(frameParsesRow.knobs==[])=true:=by kernel_rfl
def Cb:(checked.prog.stopKnobs==[])=true:=by kernel_rfl
def Cc:(frameParsesRow.inPlace==checked.prog.inPlace 3)=true:=by kernel_rfl
def Ag:(frameParsesRow.unfollowed==checked.prog.unfollowed 3)=true:=by kernel_rfl
def Ah:(frameParsesRow.recurses==checked.prog.recurses 3)=true:=by kernel_rfl
def Ai:(frameParsesRow.named==checked.prog.varsNamed 3)=true:=by kernel_rfl
def Aj:(frameParsesRow.maps==(f3.params.toList++frameParsesSpec.plain.varTypes checked.prog).any (checked.prog.mapsRec ·))=true:=by kernel_rfl
def Ak:(frameParsesRow.ifaces==(f3.params.toList++frameParsesSpec.plain.varTypes checked.prog).any (checked.prog.ifacesRec ·))=true:=by kernel_rfl
def Al:(frameParsesRow.mapsOut==checked.prog.mapsAmong f3.resultTypes.toList)=true:=by kernel_rfl
def Am:(frameParsesRow.loops==(f3.params.toList++frameParsesSpec.plain.varTypes checked.prog).any (checked.prog.loopsFrom ·))=true:=by kernel_rfl
def An:(frameParsesRow.wideKeys==(f3.params.toList++frameParsesSpec.plain.varTypes checked.prog++f3.resultTypes.toList).any (checked.prog.wideKeysFrom ·))=true:=by kernel_rfl
def Ao:(frameParsesSpec.vars.all (checked.prog.varReadable ·))=true:=by kernel_rfl
def Ap:(f3.resultTypes.all (fun t=>checked.prog.readableRec t&&decide (t<checked.prog.types.size)))=true:=by kernel_rfl
def Aq:(frameParsesRow.ifacesOut==f3.resultTypes.toList.any (checked.prog.ifacesRec ·))=true:=by kernel_rfl
def Ar:(frameParsesRow.loopsOut==f3.resultTypes.toList.any (checked.prog.loopsFrom ·))=true:=by kernel_rfl
def As:(frameParsesRow.plainKeys==checked.prog.plainKeys)=true:=by kernel_rfl
def Au:(frameParsesRow.shortTexts.isNone)=true:=by kernel_rfl
def Av:(checked.prog.stopsHeard)=true:=by kernel_rfl
def Aw:(checked.prog.mayEnter)=true:=by kernel_rfl
def Ax:(frameParsesRow.lifted==checked.prog.liftsFinal)=true:=by kernel_rfl
def Ay:(checked.prog.make==some frameParsesRow.make)=true:=by kernel_rfl
def Az:(frameParsesRow.kinds==(if frameParsesRow.domain.isEmpty then[]else f3.params.toList.map fun t=>match checked.prog.underlying t with|some (.int k)=>some k|_=>none))=true:=by kernel_rfl
def AA:(frameParsesRow.pinned==frameParsesRow.pinnedBy)=true:=by kernel_rfl
def AD:(frameParsesRow.veiled==(f3.params.toList++frameParsesSpec.plain.varTypes checked.prog++f3.resultTypes.toList).any (checked.prog.veiledRec ·))=true:=by kernel_rfl
def AE:(frameParsesRow.veiledFits checked.prog f3.params.toList (f3.params.toList++frameParsesSpec.plain.varTypes checked.prog++f3.resultTypes.toList))=true:=by kernel_rfl
set_option maxRecDepth 100000 in
theorem wg:joinedFacts checked.prog 3 f3 frameParsesSpec frameParsesRow=true:=(gk (gk (gk (gk (gk (gk (gk (gk (gk (gk (gk (gk (gk (gk (gk (gk (gk (gk (gk (gk (gk (gk (gk (gk (gk (gk (gk (gk (gk (gk (gk B3 B4) B5) B6) B7) B8) B9) Ca) Cb) Cc) Ag) Ah) Ai) Aj) Ak) Al) Am) An) Ao) Ap) Aq) Ar) As) Au) Av) Aw) Ax) Ay) Az) AA) AD) AE)
theorem xw:Rows.FrameParsesSaid:=
 OpenClaim.holds_of_wide 3 f3 rfl rfl rfl rfl rfl rfl rfl ⟨rfl,rfl,rfl,rfl,rfl⟩ rfl rfl rfl rfl rfl (by kernel_rfl) func3 wg
  (of_decide_eq_true (by kernel_rfl)) (by unfold Func.isWrapper;first|(rw[if_pos (by decide+kernel)];kernel_rfl)|(rw[if_neg (by decide+kernel)];exact⟨rfl,rfl⟩))
  (fun os u H enc _=>wj os u H enc)
end Go.Proofs.YtplacgnfinmfbaaGreatDoor
end
section
namespace Go.Proofs.YtplacgnfinmfbaaGreatDoor
open Go
theorem frameParses_card:Rows.FrameParsesCardSaid:=
 Claim7.holds_tied_plain_at .later [] [.data,.pinned] true (true, "b2177a98a635e4c490ed61a895036120674d964ff060c9bdf97e9f060d3466ee") false xw (fun _ h=>by cases h) RC (fun _ h=>by cases h) frameParses_row_tie rfl ⟨rfl,rfl⟩ RD rfl
  (fun f fn hf hfn=>by
    obtain rfl:f=3:=Option.some.inj (RE.symm.trans hf)|>.symm
    obtain rfl:fn=Tryz.f3:=(Option.some.inj (Tryz.func3.symm.trans hfn)).symm
    exact⟨RF,fun j t ht=>by
     rw[RG]at ht
     have hm:t∈[22,3,4]:=by simpa using Array.mem_of_getElem? ht
     exact(show Tryz.prog.wantsStandIn t=false by simpa using List.all_eq_true.1 RH t hm)⟩)
  RJ
end Go.Proofs.YtplacgnfinmfbaaGreatDoor
end
