/- A part. -/
import Derived.Test.YtkeagffgdajggaaGreatSt26
set_option linter.unusedSimpArgs false
set_option linter.unusedVariables false
section
set_option maxRecDepth 4000
namespace Go.AB
open Go
def MI(fuel:Nat)(b_0:List UInt8)(aj:Bool)(bJ:Int):Int×(List aa)×Int->Option ((Int×(List aa)×Int)⊕(Unit⊕(aa×Int×Int))):=fun((at5,l6,n7):Int×(List aa)×Int)=>
       if decide (n7<=(b_0.length:Int))then
        ba (bD b_0 at5 aj) fun r12=>
        if r12.2 !=0 then
         some (.inr (.inr ((aa.mk 0 0 (aC.mk []) ([]:List aa)),(0:Int),r12.2)))
        else
         if r12.1.Kind==3 then
          some (.inr (.inr ((aa.mk 6 0 (aC.mk []) l6),r12.1.To,(0:Int))))
         else
          ba (aL fuel b_0 r12.1 aj bJ) fun r13=>
          if r13.2.2 !=0 then
           some (.inr (.inr ((aa.mk 0 0 (aC.mk []) ([]:List aa)),(0:Int),r13.2.2)))
          else
           aH ((l6.length+[r13.1].length)*56<=room)<|
           some (.inl (r13.2.1,l6++[r13.1],ao (n7+1)))
       else
        some (.inr (.inl ()))
def MV(fuel:Nat)(b_0:List UInt8)(aj:Bool)(bJ:Int):Int×aa×Bool×Int->Option ((Int×aa×Bool×Int)⊕(Unit⊕(aa×Int×Int))):=fun((at5,d6,oj,n8):Int×aa×Bool×Int)=>
       if decide (n8<=(b_0.length:Int))then
        ba (bD b_0 at5 aj) fun r13=>
        if r13.2 !=0 then
         some (.inr (.inr ((aa.mk 0 0 (aC.mk []) ([]:List aa)),(0:Int),r13.2)))
        else
         if r13.1.Kind==5 then
          if oj then
           some (.inr (.inr ((aa.mk 0 0 (aC.mk []) ([]:List aa)),(0:Int),(16:Int))))
          else
           some (.inr (.inr (d6,r13.1.To,(0:Int))))
         else
          if r13.1.Kind==0 then
           some (.inr (.inr ((aa.mk 0 0 (aC.mk []) ([]:List aa)),(0:Int),(10:Int))))
          else
           if(r13.1.Kind !=1)||(r13.1.V.Kind !=5)then
            some (.inr (.inr ((aa.mk 0 0 (aC.mk []) ([]:List aa)),(0:Int),(11:Int))))
           else
            if decide (bJ>=64)then
             some (.inr (.inr ((aa.mk 0 0 (aC.mk []) ([]:List aa)),(0:Int),(15:Int))))
            else
             ba (bD b_0 r13.1.To aj) fun r14=>
             if r14.2 !=0 then
              some (.inr (.inr ((aa.mk 0 0 (aC.mk []) ([]:List aa)),(0:Int),r14.2)))
             else
              ba (aL fuel b_0 r14.1 aj bJ) fun r15=>
              if r15.2.2 !=0 then
               some (.inr (.inr ((aa.mk 0 0 (aC.mk []) ([]:List aa)),(0:Int),r15.2.2)))
              else
               ba (dQ (!oj) 0 (b4 d6 r13.1.V.S)) fun r16=>
               ba (fk d6 r13.1.V.S r15.1) fun r17=>
               some (.inl (r15.2.1,r17,oj||(decide (r16>=0)),ao (n8+1)))
       else
        some (.inr (.inl ()))
theorem Oh{fuel:Nat}{b:List UInt8}{at_:Int}{last:Bool}{D:Int}{v:aa}{to e:Int}(h:iter (MI fuel b last D) (at_,[],0)=some (.inr (v,to,e))):fy (fuel+1) b at_ last D=some (v,to,e):=by
 rw[fy]
 exact aN (z:=.inr (v,to,e)) (gm (z:=.inr (v,to,e)) h rfl) rfl
theorem Ry{fuel:Nat}{b:List UInt8}{at_:Int}{last:Bool}{D:Int}{v:aa}{to e:Int}(h:iter (MV fuel b last D) (at_,dV [],false,0)=some (.inr (v,to,e))):gw (fuel+1) b at_ last D=some (v,to,e):=by
 rw[gw]
 exact aN (z:=.inr (v,to,e)) (gm (z:=.inr (v,to,e)) h rfl) rfl
section
variable{b:List UInt8}{last:Bool}
theorem Qs(hb:b.length<1048576){j:Nat}(hj:j<=b.length)(v:aa)(op:AV):∃o1 at' e is to,ct ⟨b,(j:Int),last,op⟩ v=some (o1,e,⟨b,at',last,op⟩)/\iu b (j:Int) last v.N=some (is,to,e)/\
 (e=0->(is=true->o1=⟨8,v.N,⟨[]⟩,[]⟩/\at'=to/\∃q:Nat,to=(q:Int)/\j<=q/\q<=b.length)/\(is=false->o1=v/\at'=(j:Int))):=by
 unfold ct iu
 rw[L7 hb j hj,sn hb j hj,bC,bC]
 by_cases h1:(gU b last j).2=0
 ·obtain⟨⟨j2,e2,h2,h3,_⟩,_,_⟩:=Jp hj h1
  generalize gU b last j=r1 at h1 e2⊢
  obtain⟨t1,e1⟩:=r1
  obtain rfl:e1=0:=h1
  have e2:t1.To=(j2:Int):=e2
  have z1:((0:Int)!=0)=false:=rfl
  have z2:((0:Int)==6)=false:=rfl
  have m0:dq 0=some 0:=rfl
  simp only[tR,cK,cL,z1,z2,m0,Bool.not_false,kS,bC,Bool.false_or,Bool.false_eq_true,if_false]
  cases hw:((t1.Kind==1)&&(t1.V.Kind==2))with
  |false=>
   simp only[Bool.not_false,if_true]
   exact⟨v,j,0,false,0,rfl,rfl,fun _=>⟨fun h=>(by cases h),fun _=>⟨rfl,rfl⟩⟩⟩
  |true=>
   simp only[Bool.not_true,Bool.false_eq_true,if_false]
   rw[e2,L7 hb j2 h2,sn hb j2 h2,bC,bC]
   by_cases h5:(gU b last j2).2=0
   ·obtain⟨⟨j3,e3,h6,h7,_⟩,_,_⟩:=Jp h2 h5
    generalize gU b last j2=r4 at h5 e3⊢
    obtain⟨t4,e4⟩:=r4
    obtain rfl:e4=0:=h5
    have e3:t4.To=(j3:Int):=e3
    simp only[tR,z1,z2,m0,Bool.false_or,Bool.false_eq_true,if_false,bC]
    cases hR:((t4.Kind !=6)||(!(t4.S.b==(aC.mk [82]).b)))with
    |true=>
     simp only[if_true]
     exact⟨v,j,0,false,0,rfl,rfl,fun _=>⟨fun h=>(by cases h),fun _=>⟨rfl,rfl⟩⟩⟩
    |false=>
     simp only[Bool.false_eq_true,if_false]
     by_cases hN:((decide (v.N<1)||decide (v.N>4096))||(t1.V.N !=0))=true
     ·exact⟨v,j,26,false,0,if_pos hN,if_pos hN,fun h=>(by cases h)⟩
     ·exact⟨_,t4.To,0,true,t4.To,if_neg hN,if_neg hN,fun _=>⟨fun _=>⟨rfl,rfl,j3,e3,by omega,h6⟩,fun h=>(by cases h)⟩⟩
   ·generalize gU b last j2=r4 at h5⊢
    obtain⟨t4,e4⟩:=r4
    have h5:e4≠0:=h5
    have y1:(e4 !=0)=true:=by simpa using h5
    simp only[tR,y1,Bool.true_or,if_true]
    by_cases h6:e4=6
    ·subst h6
     exact⟨v,j,6,false,0,rfl,rfl,fun h=>(by cases h)⟩
    ·have y2:(e4==6)=false:=by simpa using h6
     have m1:dq e4=some 0:=by unfold dq;rw[y2];rfl
     simp only[m1,y2,bC,Bool.false_eq_true,if_false]
     exact⟨v,j,0,false,0,rfl,rfl,fun _=>⟨fun h=>(by cases h),fun _=>⟨rfl,rfl⟩⟩⟩
 ·generalize gU b last j=r1 at h1⊢
  obtain⟨t1,e1⟩:=r1
  have h1:e1≠0:=h1
  have y1:(e1 !=0)=true:=by simpa using h1
  simp only[tR,y1,Bool.not_true,Be,bC,Bool.true_or,if_true]
  by_cases h6:e1=6
  ·subst h6
   exact⟨v,j,6,false,0,rfl,rfl,fun h=>(by cases h)⟩
  ·have y2:(e1==6)=false:=by simpa using h6
   have m1:dq e1=some 0:=by unfold dq;rw[y2];rfl
   simp only[m1,y2,bC,Bool.false_eq_true,if_false]
   exact⟨v,j,0,false,0,rfl,rfl,fun _=>⟨fun h=>(by cases h),fun _=>⟨rfl,rfl⟩⟩⟩
theorem JO(hb:b.length<1048576){k:Nat}{t:ar}(ht:zt b k t)(hL:t.V.L=[])(hk:t.Kind=1\/t.Kind=6):∃v at' e,(∀st,b8 st=false->jd ⟨b,t.To,last,st⟩ t=some (v,e,at'))/\
 (∀fuel D,aL (fuel+1) b (tR t) last D=if e≠0 then some (zV,0,e)else if D>=64 then some (zV,0,15)else some (v,at',0))/\(e=0->(∃q:Nat,at'=(q:Int)/\k<q/\q<=b.length)/\v.L=[]):=by
 obtain⟨⟨j,ej,hj1,hj2,hj3⟩,_,_⟩:=ht
 have hj3:k<j:=hj3 (by omega)
 have k0:(t.Kind==0)=false:=by simp;omega
 have k2:(t.Kind==2)=false:=by simp;omega
 have k3:(t.Kind==3)=false:=by simp;omega
 have k4:(t.Kind==4)=false:=by simp;omega
 have k5:(t.Kind==5)=false:=by simp;omega
 have rv:∀fuel D,aL (fuel+1) b (tR t) last D=oU (
  if t.Kind==6 then
   if t.S.b==(aC.mk [116,114,117,101]).b then
    some (.inl (aa.mk 1 1 (aC.mk []) ([]:List aa)))
   else
    if t.S.b==(aC.mk [102,97,108,115,101]).b then
     some (.inl (aa.mk 1 0 (aC.mk []) ([]:List aa)))
    else
     if t.S.b==(aC.mk [110,117,108,108]).b then
      some (.inl (aa.mk 0 0 (aC.mk []) ([]:List aa)))
     else
      some (.inr ((0:Int),(11:Int)))
  else
   some (.inl t.V)) (fun(v9:aa)=>
  oU (
   ba (cL (tR t)) fun r22=>
   if r22 then
    ba (iu b t.To last v9.N) fun r23=>
    if r23.2.2 !=0 then
     some (.inr ((0:Int),r23.2.2))
    else
     if r23.1 then
      some (.inl ((aa.mk 8 v9.N (aC.mk []) ([]:List aa)),r23.2.1))
     else
      some (.inl (v9,t.To))
   else
    some (.inl (v9,t.To))) (fun((v17,MK):aa×Int)=>
   if decide (D>=64)then
    some ((aa.mk 0 0 (aC.mk []) ([]:List aa)),(0:Int),(15:Int))
   else
    some (v17,MK,0))
  (fun((t20,t21):Int×Int)=>some ((aa.mk 0 0 (aC.mk []) ([]:List aa)),t20,t21)))
  (fun((t12,t13):Int×Int)=>some ((aa.mk 0 0 (aC.mk []) ([]:List aa)),t12,t13)):=fun fuel D=>by
  rw[aL]
  simp only[tR,k0,k2,k3,k4,k5,Bool.or_self,Bool.false_eq_true,if_false]
  rfl
 have Ip:∀(D:Int)(v:aa)(q:Int),(if decide (D>=64)then some ((aa.mk 0 0 (aC.mk []) ([]:List aa)),(0:Int),(15:Int))else some (v,q,0))=if D>=64 then some (zV,0,15)else some (v,q,0):=fun D v q=>by
  by_cases h:D>=64
  ·rw[if_pos h,if_pos (by simpa using h)];rfl
  ·rw[if_neg h,if_neg (by simpa using h)]
 have tw:∀st,b8 st=false->jd ⟨b,t.To,last,st⟩ t=if t.Kind==6 then ba (fF t.S) fun r=>some (r.1,r.2,t.To)
  else ba (cK t) fun w=>if w then ba (ct ⟨b,t.To,last,.cZ⟩ t.V) fun r=>some (r.1,r.2.1,r.2.2.at_)else some (t.V,0,t.To):=fun st cj=>by
  unfold jd
  rw[if_neg (by show¬(b8 st&&_)=true;rw[cj];simp)]
 rcases hk with hk|hk
 ·
  have k6:(t.Kind==6)=false:=by rw[hk];rfl
  have k1:(t.Kind==1)=true:=by rw[hk];rfl
  cases hw:(t.V.Kind==2)with
  |false=>
   have w1:cK t=some false:=by unfold cK;rw[k1,hw];rfl
   have w2:cL (tR t)=some false:=by unfold cL;show some ((t.Kind==1)&&(t.V.Kind==2))=_;rw[k1,hw];rfl
   refine⟨t.V,t.To,0,fun st cj=>?_,fun fuel D=>?_,fun _=>⟨⟨j,ej,hj3,hj1⟩,hL⟩⟩
   ·rw[tw st cj,k6,w1];rfl
   ·rw[rv,k6,w2,if_neg (by decide:¬((0:Int)≠0)),<-Ip];rfl
  |true=>
   have w1:cK t=some true:=by unfold cK;rw[k1,hw];rfl
   have w2:cL (tR t)=some true:=by unfold cL;show some ((t.Kind==1)&&(t.V.Kind==2))=_;rw[k1,hw];rfl
   obtain⟨o1,at',e,is,to,f1,f2,f3⟩:=Qs (b:=b) (last:=last) hb hj1 t.V .cZ
   rw[<-ej]at f1 f2 f3
   refine⟨o1,at',e,fun st cj=>?_,fun fuel D=>?_,fun he=>?_⟩
   ·rw[tw st cj,k6,w1]
    show ba (ct ⟨b,t.To,last,.cZ⟩ t.V) _=_
    rw[f1];rfl
   ·rw[rv,k6,w2]
    show oU (ba (iu b t.To last t.V.N) _) _ _=_
    rw[f2,bC]
    by_cases he:e=0
    ·subst he
     obtain⟨g1,g2⟩:=f3 rfl
     rw[if_neg (by decide:¬((0:Int)≠0)),<-Ip]
     cases is with
     |true=>obtain⟨rfl,rfl,_⟩:=g1 rfl;rfl
     |false=>obtain⟨rfl,rfl⟩:=g2 rfl;rfl
    ·have y1:(e !=0)=true:=by simpa using he
     rw[if_pos he]
     show oU (if(e !=0)=true then _ else _) _ _=_
     rw[if_pos y1];rfl
   ·obtain⟨g1,g2⟩:=f3 he
    cases is with
    |true=>
     obtain⟨rfl,rfl,q,e1,h1,h2⟩:=g1 rfl
     exact⟨⟨q,e1,by omega,h2⟩,rfl⟩
    |false=>
     obtain⟨rfl,rfl⟩:=g2 rfl
     exact⟨⟨j,ej,hj3,hj1⟩,hL⟩
 ·
  have k6:(t.Kind==6)=true:=by rw[hk];rfl
  have k1:(t.Kind==1)=false:=by rw[hk];rfl
  have w2:cL (tR t)=some false:=by unfold cL;show some ((t.Kind==1)&&(t.V.Kind==2))=_;rw[k1];rfl
  have go:∀(v:aa)(e:Int),v.L=[]->fF t.S=some (v,e)->(∀fuel D,aL (fuel+1) b (tR t) last D=if e≠0 then some (zV,0,e)else if D>=64 then some (zV,0,15)else some (v,t.To,0))->∃v at' e,(∀st,b8 st=false->jd ⟨b,t.To,last,st⟩ t=some (v,e,at'))/\
  (∀fuel D,aL (fuel+1) b (tR t) last D=if e≠0 then some (zV,0,e)else if D>=64 then some (zV,0,15)else some (v,at',0))/\(e=0->(∃q:Nat,at'=(q:Int)/\k<q/\q<=b.length)/\v.L=[]):=fun v e hvL h1 h2=>⟨v,t.To,e,fun st cj=>by rw[tw st cj,k6,if_pos rfl,h1];rfl,h2,fun _=>⟨⟨j,ej,hj3,hj1⟩,hvL⟩⟩
  by_cases c1:(t.S.b==(aC.mk [116,114,117,101]).b)=true
  ·refine go ⟨1,1,⟨[]⟩,[]⟩ 0 rfl (by unfold fF;rw[if_pos c1]) fun fuel D=>?_
   rw[rv,k6,if_pos rfl,if_pos c1,w2,if_neg (by decide:¬((0:Int)≠0)),<-Ip];rfl
  ·by_cases c2:(t.S.b==(aC.mk [102,97,108,115,101]).b)=true
   ·refine go ⟨1,0,⟨[]⟩,[]⟩ 0 rfl (by unfold fF;rw[if_neg c1,if_pos c2]) fun fuel D=>?_
    rw[rv,k6,if_pos rfl,if_neg c1,if_pos c2,w2,if_neg (by decide:¬((0:Int)≠0)),<-Ip];rfl
   ·by_cases c3:(t.S.b==(aC.mk [110,117,108,108]).b)=true
    ·refine go ⟨0,0,⟨[]⟩,[]⟩ 0 rfl (by unfold fF;rw[if_neg c1,if_neg c2,if_pos c3]) fun fuel D=>?_
     rw[rv,k6,if_pos rfl,if_neg c1,if_neg c2,if_pos c3,w2,if_neg (by decide:¬((0:Int)≠0)),<-Ip];rfl
    ·refine go ⟨0,0,⟨[]⟩,[]⟩ 11 rfl (by unfold fF;rw[if_neg c1,if_neg c2,if_neg c3]) fun fuel D=>?_
     rw[rv,k6,if_pos rfl,if_neg c1,if_neg c2,if_neg c3,if_pos (by decide:(11:Int)≠0)];rfl
end
theorem Ih:∀{C:List VL},ju C->dR C.flatten C.length=C:=fun{C} h=>by
 have hl:=h.len
 show(List.range C.length).map (gI C.flatten)=C
 refine List.ext_getElem (by simp) fun q h1 h2=>?_
 have h1:q<C.length:=h2
 obtain⟨s,v,e1,e2,e3⟩:=h.get q h1
 rw[List.getElem_map,List.getElem_range]
 unfold gI
 obtain⟨g2,e2⟩:=List.getElem?_eq_some_iff.1 e2
 obtain⟨g3,e3⟩:=List.getElem?_eq_some_iff.1 e3
 rw[List.drop_eq_getElem_cons g2,List.drop_eq_getElem_cons g3,e1,e2,e3]
 rfl
structure DI(l:List aa)(d:aa)(tw:Bool)(Cs C:List VL):Prop where
 l:l=Cs.flatten
 ps:ju Cs
 d:d=dV C
 pc:ju C
 len:C.length<=Cs.length
 no:tw=false->C.Perm Cs/\iM jb C/\Dn Cs
 yes:tw=true->¬Dn Cs
theorem DI.nil:DI [] (dV []) false [] []:=⟨rfl,fun c h=>(by cases h),rfl,fun c h=>(by cases h),Nat.le_refl _,fun _=>⟨List.Perm.refl _,List.Pairwise.nil,List.Pairwise.nil⟩,fun h=>(by cases h)⟩
theorem Dn.app{C:List VL}{c:VL}(h:Dn C)(hn:∀x∈C,nm x≠nm c):Dn (C++[c]):=List.pairwise_append.2 ⟨h,List.pairwise_singleton _ _,fun x hx y hy=>by
 have:y=c:=by simpa using hy
 rw[this];exact hn x hx⟩
theorem DI.put{l:List aa}{d:aa}{tw:Bool}{Cs C:List VL}(h:DI l d tw Cs C)(hl:Cs.length<2^29)(s:aC)(v:aa):∃i d',ba (dQ (!tw) 0 (b4 d s)) (fun r16=>ba (fk d s v) fun r17=>(some (r17,tw||decide (r16>=0)):Option (aa×Bool)))=some (d',i)/\∃C',DI (l++[⟨5,0,s,[]⟩,v]) d' i (Cs++[pr s v]) C'/\∀c∈C',c∈C\/∃s',c=pr s' v:=by
 obtain⟨rfl,ps,rfl,pc,len,no,yes⟩:=h
 have ps2:ju (Cs++[pr s v]):=fun c hc=>by
  rcases List.mem_append.1 hc with hc|hc
  ·exact ps c hc
  ·exact⟨s,v,by simpa using hc⟩
 have el:Cs.flatten++[⟨5,0,s,[]⟩,v]=(Cs++[pr s v]).flatten:=(CM Cs s v).symm
 have aaK:¬Dn Cs->¬Dn (Cs++[pr s v]):=fun h1 h2=>h1 (List.pairwise_append.1 h2).1
 rcases RJ pc (by omega) s with⟨hf,hno⟩|⟨q,hq,hf,c,hc,hcn⟩
 ·have hp:=SG pc (by omega) s v hf
  refine⟨tw,dV (x5 (pr s v) C),?_,x5 (pr s v) C,⟨el,ps2,rfl,RX pc s v,?_,fun htw=>?_,fun htw=>aaK (yes htw)⟩,fun c hc=>(List.mem_cons.1 ((kD _ C).mem_iff.1 hc)).symm.imp id fun e=>⟨s,e⟩⟩
  ·rw[hf,hp]
   cases tw<;>rfl
  ·rw[(kD _ C).length_eq,List.length_append];show C.length+1<=Cs.length+1;omega
  ·obtain⟨p1,p2,p3⟩:=no htw
   refine⟨((kD _ C).trans (p1.cons _)).trans (List.perm_append_singleton _ _).symm,BQ _ p2,p3.app fun x hx=>?_⟩
   exact hno x (p1.mem_iff.2 hx)
 ·obtain⟨C',hp,h1,h2,hmm⟩:=SH pc (by omega) s v hq hf
  refine⟨true,dV C',?_,C',⟨el,ps2,rfl,h1,by rw[h2,List.length_append];omega,(fun h=>by cases h),fun _=>?_⟩,hmm⟩
  ·rw[hf,hp]
   cases tw with
   |true=>rfl
   |false=>
    show some (dV C',false||decide (((2*q:Nat):Int)>=0))=_
    rw[decide_eq_true (by omega)];rfl
  ·cases tw with
   |true=>exact aaK (yes rfl)
   |false=>
    obtain⟨p1,_,_⟩:=no rfl
    intro h3
    have hm:=p1.mem_iff.1 hc
    exact(List.pairwise_append.1 h3).2.2 c hm (pr s v) (by simp) (by rw[hcn];rfl)
theorem DI.close{l:List aa}{d:aa}{tw:Bool}{Cs C:List VL}(h:DI l d tw Cs C)(hl:Cs.length<2^28):fX l=if tw then some ([],16)else some (d.L,0):=by
 obtain⟨rfl,ps,rfl,pc,len,no,yes⟩:=h
 have hlen:=ps.len
 unfold fX
 rw[c9 ⟨by omega,by omega⟩,show Cs.flatten.length/2=Cs.length by omega,Ih ps]
 cases tw with
 |true=>
  have:lT (tP Cs)=true:=by
   cases e:lT (tP Cs)with
   |true=>rfl
   |false=>exact absurd ((QH Cs).1 e) (yes rfl)
  rw[this,cond_true,if_pos rfl]
 |false=>
  obtain⟨p1,p2,p3⟩:=no rfl
  have e:=(QH Cs).2 p3
  have k:=(yy p1 p2).2 ((yy p1 p2).1.trans e)
  rw[e,cond_false,if_neg (by decide),<-k]
  rfl
section
variable{b:List UInt8}{last:Bool}
abbrev Mc:=pw fX
def Dlv(b:List UInt8)(last:Bool)(m:Nat)(st:List aD)(v:aa)(j:Nat)(o:aa×Int×Int):Prop:=match st with
 |[]=>o=(v,(j:Int),0)
 |w::ws=>iO Mc m ⟨b,(j:Int),last,⟨w.dC,w.l_++[v]⟩::ws⟩ o
def Ds:List aD->Nat
 |[]=>0
 |w::_=>w.l_.length
def xU(r:aa×Bool×Int×PS):Option (PS⊕(aa×Int×Int)):=
 bif r.2.2.1 !=0 then some (.inr (zV,0,r.2.2.1))else
 bif !r.2.1 then some (.inl r.2.2.2)else
 aH (r.2.2.2.st.length<=64)<|match r.2.2.2.st with
 |[]=>some (.inr (r.1,r.2.2.2.at_,0))
 |v::vs=>aH ((v.l_.length+1)*56<=room)<|some (.inl {r.2.2.2 with st:=⟨v.dC,v.l_++[r.1]⟩::vs})
theorem Mb(hb:b.length<1048576){k:Nat}(hk:k<=b.length){st:List aD}(cj:st.length<=64)(h:(gU b last k).2≠0):Mc ⟨b,(k:Int),last,st⟩=some (.inr (zV,0,(gU b last k).2)):=by
 unfold Mc pw
 rw[c9 cj,L7 hb k hk,bC]
 have:((gU b last k).2 !=0)=true:=by simpa using h
 rw[this,cond_true]
theorem PV(hb:b.length<1048576){k:Nat}(hk:k<=b.length){st:List aD}(cj:st.length<=64)(h:(gU b last k).2=0):Mc ⟨b,(k:Int),last,st⟩=ba (lR fX ⟨b,(gU b last k).1.To,last,st⟩ (gU b last k).1) xU:=by
 unfold Mc pw
 rw[c9 cj,L7 hb k hk,bC]
 have:((gU b last k).2 !=0)=false:=by rw[h];rfl
 rw[this,cond_false]
 rfl
theorem gP{v:aa}{c:Bool}{e:Int}{p:PS}(h:e≠0):xU (v,c,e,p)=some (.inr (zV,0,e)):=by
 unfold xU
 have:(e !=0)=true:=by simpa using h
 show(bif(e !=0)then _ else _)=_
 rw[this,cond_true]
theorem OV{v:aa}{j:Nat}{st:List aD}(cj:st.length<=64)(hl:Ds st<1048577){m:Nat}{o:aa×Int×Int}(h:Dlv b last m st v j o){p:PS}(hp:Mc p=xU (v,true,0,⟨b,(j:Int),last,st⟩)):iO Mc (m+1) p o:=by
 have bz:room=140737488355328:=rfl
 have e:xU (v,true,0,⟨b,(j:Int),last,st⟩)=match st with
  |[]=>some (.inr (v,(j:Int),0))
  |w::ws=>some (.inl ⟨b,(j:Int),last,⟨w.dC,w.l_++[v]⟩::ws⟩):=by
  unfold xU
  show aH (st.length<=64) _=_
  rw[c9 cj]
  cases st with
  |nil=>rfl
  |cons w ws=>
   have hl:w.l_.length<1048577:=hl
   exact af (by omega) rfl
 rw[e]at hp
 cases st with
 |nil=>
  have h:o=(v,(j:Int),0):=h
  rw[h];exact iO.stop hp
 |cons w ws=>exact iO.step hp h
end
section
variable{b:List UInt8}{last:Bool}
def py(b:List UInt8)(last:Bool)(k:Nat)(mst dst:List aD)(v:aa)(to e:Int):Prop:=
 (e≠0->v=zV/\to=0/\∃m,m<=b.length+1 -k/\iO Mc m ⟨b,(k:Int),last,mst⟩ (zV,0,e))/\
 (e=0->∃j:Nat,to=(j:Int)/\k<j/\j<=b.length/\∀m' o,Dlv b last m' dst v j o->∃m,m<=m'+(j -k)/\iO Mc m ⟨b,(k:Int),last,mst⟩ o)
theorem py.step{k j:Nat}{mst aaB dst:List aD}{v:aa}{to e:Int}(h:Mc ⟨b,(k:Int),last,mst⟩=some (.inl ⟨b,(j:Int),last,aaB⟩))(hkj:k<j)(hj:j<=b.length)(r:py b last j aaB dst v to e):py b last k mst dst v to e:=by
 refine⟨fun he=>?_,fun he=>?_⟩
 ·obtain⟨h1,h2,m,h3,h4⟩:=r.1 he
  exact⟨h1,h2,m+1,by omega,iO.step h h4⟩
 ·obtain⟨j2,h1,h2,h3,h4⟩:=r.2 he
  refine⟨j2,h1,by omega,h3,fun m' o hd=>?_⟩
  obtain⟨m,h5,h6⟩:=h4 m' o hd
  exact⟨m+1,by omega,iO.step h h6⟩
theorem py.err{k:Nat}{mst dst:List aD}{e:Int}(hk:k<=b.length)(he:e≠0)(h:Mc ⟨b,(k:Int),last,mst⟩=some (.inr (zV,0,e))):py b last k mst dst zV 0 e:=⟨fun _=>⟨rfl,rfl,1,by omega,iO.stop h⟩,fun h=>absurd h he⟩
theorem py.fin{k j:Nat}{mst dst:List aD}{v:aa}(hkj:k<j)(hj:j<=b.length)(hd:dst.length<=64)(hl:Ds dst<1048577)(h:Mc ⟨b,(k:Int),last,mst⟩=xU (v,true,0,⟨b,(j:Int),last,dst⟩)):py b last k mst dst v (j:Int) 0:=⟨fun h=>absurd rfl h,fun _=>⟨j,rfl,hkj,hj,fun m' o hd2=>⟨m'+1,by omega,OV hd hl hd2 h⟩⟩⟩
theorem py.seq{k j:Nat}{mst dst:List aD}{w:aD}{ws:List aD}{v v2:aa}{to2 e2:Int}(r1:py b last k mst (w::ws) v (j:Int) 0)(r2:py b last j (⟨w.dC,w.l_++[v]⟩::ws) dst v2 to2 e2):py b last k mst dst v2 to2 e2:=by
 obtain⟨j',e1,h1,h2,h3⟩:=r1.2 rfl
 obtain rfl:j=j':=by omega
 refine⟨fun he=>?_,fun he=>?_⟩
 ·obtain⟨g1,g2,m,g3,g4⟩:=r2.1 he
  obtain⟨m2,g5,g6⟩:=h3 m _ g4
  exact⟨g1,g2,m2,by omega,g6⟩
 ·obtain⟨j2,g1,g2,g3,g4⟩:=r2.2 he
  refine⟨j2,g1,by omega,g3,fun m' o hd=>?_⟩
  obtain⟨m,g5,g6⟩:=g4 m' o hd
  obtain⟨m2,g7,g8⟩:=h3 m _ g6
  exact⟨m2,by omega,g8⟩
theorem s0{pf:List aa->Option (List aa×Int)}{p:PS}{t:ar}(h:t.Kind=0):lR pf p t=some (zV,false,10,p):=by unfold lR;rw[h];rfl
theorem s24{pf:List aa->Option (List aa×Int)}{p:PS}{t:ar}(h:t.Kind=2\/t.Kind=4):lR pf p t=some (zV,false,(jO p (t.Kind==4)).1,(jO p (t.Kind==4)).2):=by unfold lR;rcases h with h|h<;>(rw[h];rfl)
theorem s35{pf:List aa->Option (List aa×Int)}{p:PS}{t:ar}(h:t.Kind=3\/t.Kind=5):lR pf p t=ba (DH pf p (t.Kind==5)) fun r=>some (r.1,r.2.1==0,r.2.1,r.2.2):=by unfold lR;rcases h with h|h<;>(rw[h];rfl)
theorem s16{pf:List aa->Option (List aa×Int)}{p:PS}{t:ar}(h:t.Kind=1\/t.Kind=6):lR pf p t=ba (jd p t) fun r=>bif r.2.1==0&&decide (64<=p.st.length)then some (r.1,false,15,{p with at_:=r.2.2})else some (r.1,r.2.1==0,r.2.1,{p with at_:=r.2.2}):=by unfold lR;rcases h with h|h<;>(rw[h];rfl)
theorem v0{f:Nat}{t:ar}{D:Int}(h:t.Kind=0):aL (f+1) b (tR t) last D=some (zV,0,10):=by
 rw[aL]
 exact if_pos (by show(t.Kind==0)=true;rw[h];rfl)
theorem v35{f:Nat}{t:ar}{D:Int}(h:t.Kind=3\/t.Kind=5):aL (f+1) b (tR t) last D=some (zV,0,11):=by
 rw[aL]
 refine ae (by show¬(t.Kind==0)=true;simp;omega) (ae (by show¬((t.Kind==2)||(t.Kind==4))=true;simp;omega) (al (by show((t.Kind==3)||(t.Kind==5))=true;simp;omega) rfl))
theorem QT{f:Nat}{t:ar}{D:Int}(h:t.Kind=2\/t.Kind=4)(hD:D>=64):aL (f+1) b (tR t) last D=some (zV,0,15):=by
 rw[aL]
 exact ae (by show¬(t.Kind==0)=true;simp;omega) (al (by show((t.Kind==2)||(t.Kind==4))=true;simp;omega) (al (by simpa using hD) rfl))
theorem v2{f:Nat}{t:ar}{D:Int}(h:t.Kind=2)(hD:¬D>=64){r:aa×Int×Int}(hr:fy f b t.To last (ao (D+1))=some r):aL (f+1) b (tR t) last D=some r:=by
 rw[aL]
 exact ae (by show¬(t.Kind==0)=true;simp;omega) (al (by show((t.Kind==2)||(t.Kind==4))=true;simp;omega) (ae (by simpa using hD) (al (by show(t.Kind==2)=true;rw[h];rfl) (ah hr rfl))))
theorem v4{f:Nat}{t:ar}{D:Int}(h:t.Kind=4)(hD:¬D>=64){r:aa×Int×Int}(hr:gw f b t.To last (ao (D+1))=some r):aL (f+1) b (tR t) last D=some r:=by
 rw[aL]
 exact ae (by show¬(t.Kind==0)=true;simp;omega) (al (by show((t.Kind==2)||(t.Kind==4))=true;simp;omega) (ae (by simpa using hD) (ae (by show¬(t.Kind==2)=true;rw[h];decide) (ah hr rfl))))
def Wd:Nat->aa->Prop
 |0,_=>False
 |n+1,v=>v.L.length<1048577/\∀x∈v.L,Wd n x
theorem Wd.leaf{n:Nat}{v:aa}(h:v.L=[]):Wd (n+1) v:=⟨by rw[h];decide,fun x hx=>by rw[h]at hx;cases hx⟩
def Z7:List aD->Bool
 |[]=>false
 |w::_=>!w.dC
def VC(b:List UInt8)(last:Bool)(k:Nat):Prop:=∀(st:List aD)(fuel:Nat),st.length<=64->b8 st=false->Ds st<=k->(Z7 st=true->(gU b last k).1.Kind≠3)->2*(64 -st.length)+2<=fuel->(gU b last k).2=0->
 ∃v to e,aL fuel b (tR (gU b last k).1) last (st.length:Int)=some (v,to,e)/\py b last k st st v to e/\(e=0->Wd (67 -st.length) v)
def AC(b:List UInt8)(last:Bool)(k:Nat):Prop:=∀(l:List aa)(st:List aD)(fuel cnt:Nat),st.length<64->Ds st<=k->l.length<=k->(∀x∈l,Wd (66 -st.length) x)->cnt<=k->2*(64 -(st.length+1))+2<=fuel->
 ∃v to e m,m<=b.length+1 -k/\iO (MI fuel b last ((st.length+1:Nat):Int)) m ((k:Int),l,(cnt:Int)) (.inr (v,to,e))/\py b last k (⟨false,l⟩::st) st v to e/\(e=0->Wd (67 -st.length) v)
def DC(b:List UInt8)(last:Bool)(k:Nat):Prop:=∀(l:List aa)(d:aa)(tw:Bool)(Cs C:List VL)(st:List aD)(fuel cnt:Nat),DI l d tw Cs C->st.length<64->Ds st<=k->2*Cs.length<=k->(∀c∈C,∀x∈c,Wd (66 -st.length) x)->cnt<=k->2*(64 -(st.length+1))+2<=fuel->
 ∃v to e m,m<=b.length+1 -k/\iO (MV fuel b last ((st.length+1:Nat):Int)) m ((k:Int),d,tw,(cnt:Int)) (.inr (v,to,e))/\py b last k (⟨true,l⟩::st) st v to e/\(e=0->Wd (67 -st.length) v)
theorem LQ{n f:Nat}(h:2*(64 -n)+2<=f+1+1)(h2:¬64<=n):2*(64 -(n+1))+2<=f:=by omega
theorem UO(hb:b.length<1048576){k:Nat}(hk:k<=b.length)(ihA:∀j,k<j->j<=b.length->AC b last j)(ihD:∀j,k<j->j<=b.length->DC b last j):VC b last k:=by
 intro st fuel h64 htw htl ZG EO hok
 have htk:=Jp hk hok
 have htL:=ad3 b last k
 have hM:=PV (last:=last) hb hk h64 hok
 generalize gU b last k=N at hok htk htL hM ZG⊢
 obtain⟨t,e0⟩:=N
 obtain rfl:e0=0:=hok
 have htk:zt b k t:=htk
 have htL:t.V.L=[]:=htL
 have aar:∀v:aa,v.L=[]->Wd (67 -st.length) v:=fun v h=>by rw[show 67 -st.length=(66 -st.length)+1 by omega];exact Wd.leaf h
 have no:∀{e:Int}{v:aa}(_:e≠0),e=0->Wd (67 -st.length) v:=fun h1 h2=>absurd h2 h1
 have hM:Mc ⟨b,(k:Int),last,st⟩=ba (lR fX ⟨b,t.To,last,st⟩ t) xU:=hM
 obtain⟨f,rfl⟩:∃f,fuel=f+1:=⟨fuel -1,by omega⟩
 obtain⟨j,ej,hj1,hj2,hj3⟩:=htk.to
 have single:(t.Kind=1\/t.Kind=6)->∃v to e,aL (f+1) b (tR t) last (st.length:Int)=some (v,to,e)/\py b last k st st v to e/\(e=0->Wd (67 -st.length) v):=fun h=>by
  obtain⟨v,at',e,f1,f2,f3⟩:=JO (b:=b) (last:=last) hb htk htL h
  have hS:=s16 (pf:=fX) (p:=⟨b,t.To,last,st⟩) (t:=t) h
  rw[f1 st htw,bC]at hS
  rw[hS]at hM
  by_cases he:e=0
  ·subst he
   obtain⟨⟨q,rfl,hq1,hq2⟩,hvL⟩:=f3 rfl
   by_cases hD:64<=st.length
   ·refine⟨zV,0,15,by rw[f2,if_neg (by decide:¬((0:Int)≠0)),if_pos (by omega)],py.err hk (by decide) ?_,no (by decide)⟩
    rw[hM]
    show ba (bif(true&&decide (64<=st.length))then _ else _) _=_
    rw[decide_eq_true hD,Bool.true_and,cond_true,bC]
    exact gP (by decide)
   ·refine⟨v,(q:Int),0,by rw[f2,if_neg (by decide:¬((0:Int)≠0)),if_neg (by omega)],py.fin hq1 hq2 h64 (by omega) ?_,fun _=>aar _ hvL⟩
    rw[hM]
    show ba (bif(true&&decide (64<=st.length))then _ else _) _=_
    rw[decide_eq_false hD,Bool.true_and,cond_false,bC]
    rfl
  ·have e1:(e==0)=false:=by simpa using he
   refine⟨zV,0,e,by rw[f2,if_pos he],py.err hk he ?_,no he⟩
   rw[hM]
   show ba (bif((e==0)&&decide (64<=st.length))then _ else some (v,e==0,e,_)) _=_
   rw[e1,Bool.false_and,cond_false,bC]
   exact gP he
 have cls:(t.Kind=3\/t.Kind=5)->∃v to e,aL (f+1) b (tR t) last (st.length:Int)=some (v,to,e)/\py b last k st st v to e/\(e=0->Wd (67 -st.length) v):=fun h=>by
  have Vq:nS st (t.Kind==5)=true:=by
   cases st with
   |nil=>rfl
   |cons w ws=>
    show((w.dC !=(t.Kind==5))||((t.Kind==5)&&!b8 (w::ws)))=true
    rw[htw]
    rcases h with h|h
    ·have:w.dC=true:=by
      cases hw:w.dC with
      |true=>rfl
      |false=>exact absurd h (ZG (by show(!w.dC)=true;rw[hw];rfl))
     rw[this,h];rfl
    ·rw[h];cases w.dC<;>rfl
  refine⟨zV,0,11,v35 h,py.err hk (by decide) ?_,no (by decide)⟩
  rw[hM,s35 h]
  have:DH fX ⟨b,t.To,last,st⟩ (t.Kind==5)=some (zV,11,⟨b,t.To,last,st⟩):=by
   unfold DH
   rw[Vq,cond_true]
  rw[this,bC,bC]
  exact gP (e:=11) (by decide)
 have opn:(t.Kind=2\/t.Kind=4)->∃v to e,aL (f+1) b (tR t) last (st.length:Int)=some (v,to,e)/\py b last k st st v to e/\(e=0->Wd (67 -st.length) v):=fun h=>by
  have hj3:k<j:=hj3 (by omega)
  rw[s24 h,bC]at hM
  by_cases hD:64<=st.length
  ·have hB:∀d,jO ⟨b,t.To,last,st⟩ d=(15,⟨b,t.To,last,st⟩):=fun d=>by
    unfold jO
    rw[htw,cond_false,decide_eq_true hD,cond_true]
   rw[hB]at hM
   exact⟨zV,0,15,QT h (by omega),py.err hk (by decide) (by rw[hM];exact gP (e:=15) (by decide)),no (by decide)⟩
  ·have hB:∀d,jO ⟨b,t.To,last,st⟩ d=(0,⟨b,t.To,last,⟨d,[]⟩::st⟩):=fun d=>by
    unfold jO
    rw[htw,cond_false,decide_eq_false hD,cond_false]
   rw[hB]at hM
   have hM:Mc ⟨b,(k:Int),last,st⟩=some (.inl ⟨b,t.To,last,⟨t.Kind==4,[]⟩::st⟩):=hM
   rw[ej]at hM
   have hw:ao ((st.length:Int)+1)=((st.length+1:Nat):Int):=by rw[au (by omega) (by omega)];rfl
   obtain⟨f',rfl⟩:∃f',f=f'+1:=⟨f -1,by omega⟩
   rcases h with h|h
   ·obtain⟨v,to,e,m,hm,h1,h2,h9⟩:=ihA j hj3 hj1 [] st f' 0 (by omega) (by omega) (Nat.zero_le _) (fun x hx=>by cases hx) (Nat.zero_le _) (LQ EO hD)
    rw[h]at hM
    refine⟨v,to,e,v2 h (by omega) ?_,py.step hM hj3 hj1 h2,h9⟩
    rw[ej,hw]
    exact Oh (h1.iter (by omega))
   ·obtain⟨v,to,e,m,hm,h1,h2,h9⟩:=ihD j hj3 hj1 [] (dV []) false [] [] st f' 0 DI.nil (by omega) (by omega) (Nat.zero_le _) (fun x hx=>by cases hx) (Nat.zero_le _) (LQ EO hD)
    rw[h]at hM
    refine⟨v,to,e,v4 h (by omega) ?_,py.step hM hj3 hj1 h2,h9⟩
    rw[ej,hw]
    exact Ry (h1.iter (by omega))
 rcases htk.kd with h|h|h|h|h|h|h
 ·exact⟨zV,0,10,v0 h,py.err hk (by decide) (by rw[hM,s0 h];exact gP (by decide)),no (by decide)⟩
 ·exact single (.inl h)
 ·exact opn (.inl h)
 ·exact cls (.inl h)
 ·exact opn (.inr h)
 ·exact cls (.inr h)
 ·exact single (.inr h)
theorem Tu(hb:b.length<1048576){k:Nat}(hk:k<=b.length)(hV:VC b last k)(ihA:∀j,k<j->j<=b.length->AC b last j):AC b last k:=by
 have bz:room=140737488355328:=rfl
 intro l st fuel cnt h64 htl hll hW adz EO
 have Gi:(⟨false,l⟩::st:List aD).length<=64:=h64
 have hc:decide ((cnt:Int)<=(b.length:Int))=true:=by simp;omega
 by_cases hok:(gU b last k).2=0
 ·have htk:=Jp hk hok
  have hM:=PV (last:=last) hb hk Gi hok
  have hN:gU b last k=((gU b last k).1,0):=Prod.ext rfl hok
  have hv:=hV (⟨false,l⟩::st) fuel Gi rfl hll
  by_cases h3:(gU b last k).1.Kind=3
  ·obtain⟨j,ej,hj1,hj2,hj3⟩:=htk.to
   have hj3:k<j:=hj3 (by omega)
   refine⟨⟨6,0,⟨[]⟩,l⟩,(j:Int),0,1,by omega,iO.stop ?_,py.fin hj3 hj1 (by omega) (by omega) ?_,fun _=>?_⟩
   ·unfold MI
    refine al hc (ah (sn hb k hk) (ae (by show¬((gU b last k).2 !=0)=true;rw[hok];decide) (al (by show((gU b last k).1.Kind==3)=true;rw[h3];rfl) ?_)))
    show some (Sum.inr (Sum.inr (_,(gU b last k).1.To,(0:Int))))=_
    rw[ej]
   ·rw[hM,s35 (.inl h3),ej,h3]
    rfl
   ·rw[show 67 -st.length=(66 -st.length)+1 by omega]
    exact⟨by show l.length<_;omega,hW⟩
  ·obtain⟨v,to,e,hr,ko,hwd⟩:=hv (fun _=>h3) (by show 2*(64 -(st.length+1))+2<=fuel;omega) hok
   have mG:∀z,(if(e !=0)=true then some (.inr (.inr (zV,(0:Int),e)))else aH ((l.length+[v].length)*56<=room)<|some (.inl (to,l++[v],ao ((cnt:Int)+1))))=z->MI fuel b last ((st.length+1:Nat):Int) ((k:Int),l,(cnt:Int))=z:=fun z hz=>by
    unfold MI
    exact al hc (ah (sn hb k hk) (ae (by show¬((gU b last k).2 !=0)=true;rw[hok];decide) (ae (by show¬((gU b last k).1.Kind==3)=true;simpa using h3) (ah hr hz))))
   by_cases he:e=0
   ·subst he
    obtain⟨j,rfl,hj1,hj2,_⟩:=ko.2 rfl
    obtain⟨v2,to2,e2,m,hm,g1,g2,g3⟩:=ihA j hj1 hj2 (l++[v]) st fuel (cnt+1) h64 (by omega) (by rw[List.length_append];show l.length+1<=j;omega) (fun x hx=>by
     rcases List.mem_append.1 hx with hx|hx
     ·exact hW x hx
     ·have ex:x=v:=by simpa using hx
      rw[ex]
      have:=hwd rfl
      rwa[show 67 -(⟨false,l⟩::st:List aD).length=66 -st.length by show 67 -(st.length+1)=_;omega]at this) (by omega) EO
    refine⟨v2,to2,e2,m+1,by omega,iO.step (mG _ ?_) g1,py.seq ko g2,g3⟩
    rw[if_neg (by decide),c9 (by show(l.length+1)*56<=room;omega),au (by omega) (by omega)]
    rfl
   ·obtain⟨rfl,rfl,m,hm,bk⟩:=ko.1 he
    refine⟨zV,0,e,1,by omega,iO.stop (mG _ ?_),⟨fun _=>⟨rfl,rfl,m,hm,bk⟩,fun h=>absurd h he⟩,fun h=>absurd h he⟩
    rw[if_pos (by simpa using he)]
 ·refine⟨zV,0,(gU b last k).2,1,by omega,iO.stop ?_,py.err hk hok (Mb hb hk Gi hok),fun h=>absurd h hok⟩
  unfold MI
  exact al hc (ah (sn hb k hk) (al (by show((gU b last k).2 !=0)=true;simpa using hok) rfl))
theorem HZ{α β:Type}{o:Option α}{f:α->Option β}{r:β}(h:ba o f=some r):∃a,o=some a/\f a=some r:=by
 cases o with
 |none=>cases h
 |some a=>exact⟨a,rfl,h⟩
theorem TL(hb:b.length<1048576){k:Nat}(hk:k<=b.length)(ihV:∀j,k<j->j<=b.length->VC b last j)(ihD:∀j,k<j->j<=b.length->DC b last j):DC b last k:=by
 have bz:room=140737488355328:=rfl
 intro l d tw Cs C st fuel cnt hDI h64 htl hCl hW adz EO
 have no:∀{e:Int}{v:aa}(_:e≠0),e=0->Wd (67 -st.length) v:=fun h1 h2=>absurd h2 h1
 have hl:l.length=2*Cs.length:=by rw[hDI.l];exact hDI.ps.len
 have Gi:(⟨true,l⟩::st:List aD).length<=64:=h64
 have hc:decide ((cnt:Int)<=(b.length:Int))=true:=by simp;omega
 have htw:b8 (⟨true,l⟩::st)=true:=by
  show(true&&((l.length:Int).tmod 2==0))=true
  rw[hl];simp
 by_cases hok:(gU b last k).2=0
 ·have htk:=Jp hk hok
  have hM:=PV (last:=last) hb hk Gi hok
  have mG:∀z,(if((gU b last k).1.Kind==5)=true then _ else _)=z->MV fuel b last ((st.length+1:Nat):Int) ((k:Int),d,tw,(cnt:Int))=z:=fun z hz=>by
   unfold MV
   exact al hc (ah (sn hb k hk) (ae (by show¬((gU b last k).2 !=0)=true;rw[hok];decide) hz))
  generalize gU b last k=N at hok htk hM mG⊢
  obtain⟨t,e0⟩:=N
  obtain rfl:e0=0:=hok
  have htk:zt b k t:=htk
  have hM:Mc ⟨b,(k:Int),last,⟨true,l⟩::st⟩=ba (lR fX ⟨b,t.To,last,⟨true,l⟩::st⟩ t) xU:=hM
  obtain⟨j,ej,hj1,hj2,hj3⟩:=htk.to
  by_cases h5:t.Kind=5
  ·have hj3:k<j:=hj3 (by omega)
   have hE:DH fX ⟨b,t.To,last,⟨true,l⟩::st⟩ true=ba (fX l) fun r=>bif r.2 !=0 then some (zV,r.2,⟨b,t.To,last,⟨true,l⟩::st⟩)else some (⟨7,0,⟨[]⟩,r.1⟩,0,⟨b,t.To,last,st⟩):=by
    unfold DH
    have:nS (⟨true,l⟩::st) true=false:=by
     show((true !=true)||(true&&!b8 (⟨true,l⟩::st)))=false
     rw[htw];rfl
    rw[this,cond_false]
    show(bif true then ba (fX l) _ else _)=_
    rw[cond_true]
   rw[s35 (.inr h5),h5]at hM
   have hM:Mc ⟨b,(k:Int),last,⟨true,l⟩::st⟩=ba (ba (DH fX ⟨b,t.To,last,⟨true,l⟩::st⟩ true) fun r=>some (r.1,r.2.1==0,r.2.1,r.2.2)) xU:=hM
   rw[hE,hDI.close (by omega)]at hM
   cases tw with
   |true=>
    refine⟨zV,0,16,1,by omega,iO.stop (mG _ (al (by show(t.Kind==5)=true;rw[h5];rfl) (al rfl rfl))),py.err hk (by decide) ?_,no (by decide)⟩
    rw[hM]
    exact gP (e:=16) (by decide)
   |false=>
    refine⟨d,(j:Int),0,1,by omega,iO.stop (mG _ (al (by show(t.Kind==5)=true;rw[h5];rfl) (ae (by decide) ?_))),py.fin hj3 hj1 (by omega) (by omega) ?_,fun _=>?_⟩
    ·show some (Sum.inr (Sum.inr (d,t.To,(0:Int))))=_
     rw[ej]
    ·rw[hM,ej]
     have:=hDI.d
     subst this
     rfl
    ·have hd:=hDI.d
     subst hd
     rw[show 67 -st.length=(66 -st.length)+1 by omega]
     have hl2:=hDI.pc.len
     have hl3:=hDI.len
     refine⟨by show C.flatten.length<_;omega,fun x hx=>?_⟩
     obtain⟨c,hc1,hc2⟩:=List.mem_flatten.1 hx
     exact hW c hc1 x hc2
  ·have hn5:¬(t.Kind==5)=true:=by simpa using h5
   by_cases h0:t.Kind=0
   ·refine⟨zV,0,10,1,by omega,iO.stop (mG _ (ae hn5 (al (by show(t.Kind==0)=true;rw[h0];rfl) rfl))),py.err hk (by decide) ?_,no (by decide)⟩
    rw[hM,s0 h0];exact gP (by decide)
   ·have hn0:¬(t.Kind==0)=true:=by simpa using h0
    have hj3:k<j:=hj3 h0
    by_cases hnm:t.Kind=1/\t.V.Kind=5
    ·obtain⟨h1,hv5⟩:=hnm
     have hV:=htk.nm h1 hv5
     have hsg:jd ⟨b,t.To,last,⟨true,l⟩::st⟩ t=some (t.V,0,t.To):=by
      unfold jd
      have c1:¬(b8 (⟨true,l⟩::st)&&(t.Kind !=1||t.V.Kind !=5))=true:=by rw[h1,hv5];simp
      have c2:¬(t.Kind==6)=true:=by rw[h1];decide
      have c3:cK t=some false:=by unfold cK;rw[h1,hv5];rfl
      exact ae c1 (ae c2 (ah c3 (ae (by decide) rfl)))
     rw[s16 (.inl h1),hsg,bC]at hM
     have hnn:¬((t.Kind !=1)||(t.V.Kind !=5))=true:=by rw[h1,hv5];decide
     by_cases hD:64<=st.length+1
     ·refine⟨zV,0,15,1,by omega,iO.stop (mG _ (ae hn5 (ae hn0 (ae hnn (al (by simp;omega) rfl))))),py.err hk (by decide) ?_,no (by decide)⟩
      rw[hM]
      show ba (bif(true&&decide (64<=st.length+1))then _ else _) _=_
      rw[decide_eq_true hD,Bool.true_and,cond_true,bC]
      exact gP (by decide)
     ·have hM2:Mc ⟨b,(k:Int),last,⟨true,l⟩::st⟩=some (.inl ⟨b,(j:Int),last,⟨true,l++[t.V]⟩::st⟩):=by
       rw[hM]
       show ba (bif(true&&decide (64<=st.length+1))then _ else _) _=_
       rw[decide_eq_false hD,Bool.true_and,cond_false,bC,ej]
       unfold xU
       show aH ((⟨true,l⟩::st:List aD).length<=64) _=_
       rw[c9 Gi]
       exact af (by show(l.length+1)*56<=room;omega) rfl
      have TV:¬decide (((st.length+1:Nat):Int)>=64)=true:=by simp;omega
      by_cases M8:(gU b last j).2=0
      ·obtain⟨v,to,e,hr,ko,hwd⟩:=ihV j hj3 hj1 (⟨true,l++[t.V]⟩::st) fuel Gi (by
        show(true&&(((l++[t.V]).length:Int).tmod 2==0))=false
        have:(((l++[t.V]).length:Nat):Int).tmod 2=1:=by
         rw[List.length_append,hl,Int.tmod_eq_emod_of_nonneg (by omega)]
         show((2*Cs.length+1:Nat):Int)% 2=1
         omega
        rw[this];rfl) (by show(l++[t.V]).length<=j;rw[List.length_append];show l.length+1<=j;omega) (fun h=>by cases h) (by show 2*(64 -(st.length+1))+2<=fuel;omega) M8
       have O9:∀z,(if(e !=0)=true then some (.inr (.inr (zV,(0:Int),e)))else ba (dQ (!tw) 0 (b4 d t.V.S)) fun r16=>ba (fk d t.V.S v) fun r17=>some (.inl (to,r17,tw||(decide (r16>=0)),ao ((cnt:Int)+1))))=z->MV fuel b last ((st.length+1:Nat):Int) ((k:Int),d,tw,(cnt:Int))=z:=fun z hz=>by refine mG _ (ae hn5 (ae hn0 (ae hnn (ae TV (ah (a:=(tR (gU b last j).1,(gU b last j).2)) (by show bD b t.To last=_;rw[ej];exact sn hb j hj1) (ae (by show¬((gU b last j).2 !=0)=true;rw[M8];decide) (ah hr hz)))))))
       by_cases he:e=0
       ·subst he
        obtain⟨j2,rfl,hj4,hj5,_⟩:=ko.2 rfl
        obtain⟨i,d',heq,C',adq,lZ⟩:=hDI.put (by omega) t.V.S v
        obtain⟨r16,g1,heq⟩:=HZ heq
        obtain⟨r17,g2,heq⟩:=HZ heq
        injection heq with heq
        injection heq with g3 g4
        subst g3
        obtain⟨v2,to2,e2,m,hm,q1,q2,q3⟩:=ihD j2 (by omega) hj5 _ _ i _ C' st fuel (cnt+1) adq h64 (by omega) (by rw[List.length_append];show 2*(Cs.length+1)<=j2;omega) (fun c hc x hx=>by
         rcases lZ c hc with hc|⟨s',rfl⟩
         ·exact hW c hc x hx
         ·have hx:x=⟨5,0,s',[]⟩\/x=v:=by simpa[pr]using hx
          rcases hx with rfl|rfl
          ·rw[show 66 -st.length=(65 -st.length)+1 by omega];exact Wd.leaf rfl
          ·have:=hwd rfl
           rwa[show 67 -(⟨true,l++[t.V]⟩::st:List aD).length=66 -st.length by show 67 -(st.length+1)=_;omega]at this) (by omega) EO
        refine⟨v2,to2,e2,m+1,by omega,iO.step (O9 _ ?_) q1,py.step hM2 hj3 hj1 (py.seq ko ?_),q3⟩
        ·rw[if_neg (by decide),g1,bC,g2,bC,g4,au (by omega) (by omega)]
         rfl
        ·rw[<-hV]at q2
         have e9:(l++[t.V])++[v]=l++[t.V,v]:=by simp
         show py b last j2 (⟨true,(l++[t.V])++[v]⟩::st) st v2 to2 e2
         rw[e9];exact q2
       ·obtain⟨rfl,rfl,m,hm,bk⟩:=ko.1 he
        refine⟨zV,0,e,1,by omega,iO.stop (O9 _ ?_),py.step hM2 hj3 hj1 ⟨fun _=>⟨rfl,rfl,m,hm,bk⟩,fun h=>absurd h he⟩,no he⟩
        rw[if_pos (by simpa using he)]
      ·refine⟨zV,0,(gU b last j).2,1,by omega,iO.stop (mG _ (ae hn5 (ae hn0 (ae hnn (ae TV (ah (a:=(tR (gU b last j).1,(gU b last j).2)) (by show bD b t.To last=_;rw[ej];exact sn hb j hj1) (al (by show((gU b last j).2 !=0)=true;simpa using M8) rfl))))))),py.step hM2 hj3 hj1 (py.err hj1 M8 (Mb hb hj1 Gi M8)),no M8⟩
    ·have hnn:((t.Kind !=1)||(t.V.Kind !=5))=true:=by
      simp only[Bool.or_eq_true,bne_iff_ne]
      by_cases h1:t.Kind=1
      ·exact .inr fun h=>hnm ⟨h1,h⟩
      ·exact .inl h1
     refine⟨zV,0,11,1,by omega,iO.stop (mG _ (ae hn5 (ae hn0 (al hnn rfl)))),py.err hk (by decide) ?_,no (by decide)⟩
     rw[hM]
     have sg:(t.Kind=1\/t.Kind=6)->ba (lR fX ⟨b,t.To,last,⟨true,l⟩::st⟩ t) xU=some (.inr (zV,0,11)):=fun h=>by
      have:jd ⟨b,t.To,last,⟨true,l⟩::st⟩ t=some (zV,11,t.To):=by
       unfold jd
       exact al (by show(b8 (⟨true,l⟩::st)&&_)=true;rw[htw,Bool.true_and];exact hnn) rfl
      rw[s16 h,this,bC]
      exact gP (e:=11) (by decide)
     have bg:(t.Kind=2\/t.Kind=4)->ba (lR fX ⟨b,t.To,last,⟨true,l⟩::st⟩ t) xU=some (.inr (zV,0,11)):=fun h=>by
      have hB:∀d,jO ⟨b,t.To,last,⟨true,l⟩::st⟩ d=(11,⟨b,t.To,last,⟨true,l⟩::st⟩):=fun d=>by
       unfold jO
       rw[htw,cond_true]
      rw[s24 h,hB,bC]
      exact gP (e:=11) (by decide)
     rcases htk.kd with h|h|h|h|h|h|h
     ·exact absurd h h0
     ·exact sg (.inl h)
     ·exact bg (.inl h)
     ·have:DH fX ⟨b,t.To,last,⟨true,l⟩::st⟩ (t.Kind==5)=some (zV,11,⟨b,t.To,last,⟨true,l⟩::st⟩):=by
       rw[h];rfl
      rw[s35 (.inl h),this,bC,bC]
      exact gP (e:=11) (by decide)
     ·exact bg (.inr h)
     ·exact absurd h h5
     ·exact sg (.inr h)
 ·refine⟨zV,0,(gU b last k).2,1,by omega,iO.stop ?_,py.err hk hok (Mb hb hk Gi hok),no hok⟩
  unfold MV
  exact al hc (ah (sn hb k hk) (al (by show((gU b last k).2 !=0)=true;simpa using hok) rfl))
theorem Od(hb:b.length<1048576):∀(n k:Nat),k<=b.length->b.length -k<=n->VC b last k/\AC b last k/\DC b last k
 |0,k,hk,hn=>by
  have no:∀j,k<j->j<=b.length->False:=fun j h1 h2=>by omega
  have hV:=UO (last:=last) hb hk (fun j h1 h2=>(no j h1 h2).elim) (fun j h1 h2=>(no j h1 h2).elim)
  exact⟨hV,Tu hb hk hV (fun j h1 h2=>(no j h1 h2).elim),TL hb hk (fun j h1 h2=>(no j h1 h2).elim) (fun j h1 h2=>(no j h1 h2).elim)⟩
 |n+1,k,hk,hn=>by
  have ih:=fun j(h1:k<j)(h2:j<=b.length)=>Od hb n j h2 (by omega)
  have hV:=UO (last:=last) hb hk (fun j h1 h2=>(ih j h1 h2).2.1) (fun j h1 h2=>(ih j h1 h2).2.2)
  exact⟨hV,Tu hb hk hV (fun j h1 h2=>(ih j h1 h2).2.1),TL hb hk (fun j h1 h2=>(ih j h1 h2).1) (fun j h1 h2=>(ih j h1 h2).2.2)⟩
theorem Lo(hb:b.length<1048576){k:Nat}(hk:k<=b.length):∃r,jB b (k:Int) last=some r/\dP b (k:Int) last=some r/\Wd 67 r.1:=by
 have adw:130<=FP:=by decide
 by_cases hok:(gU b last k).2=0
 ·obtain⟨v,to,e,hr,⟨h1,h2⟩,h9⟩:=(Od (last:=last) hb _ k hk (Nat.le_refl _)).1 [] FP (by decide) rfl (Nat.zero_le _) (fun h=>by cases h) (by show 2*(64 -0)+2<=FP;omega) hok
  have hR:dP b (k:Int) last=some (v,to,e):=by
   unfold dP
   exact ah (sn hb k hk) (ae (by show¬((gU b last k).2 !=0)=true;rw[hok];decide) (ah hr rfl))
  by_cases he:e=0
  ·obtain⟨j,rfl,hj1,hj2,h3⟩:=h2 he
   obtain⟨m,hm,bk⟩:=h3 0 (v,(j:Int),0) rfl
   subst he
   exact⟨_,bk.iter (by omega),hR,h9 rfl⟩
  ·obtain⟨rfl,rfl,m,hm,bk⟩:=h1 he
   exact⟨_,bk.iter (by omega),hR,Wd.leaf rfl⟩
 ·refine⟨(zV,0,(gU b last k).2),(iO.stop (m:=0) (Mb hb hk (by decide) hok)).iter (by decide),?_,Wd.leaf rfl⟩
  unfold dP
  exact ah (sn hb k hk) (al (by show((gU b last k).2 !=0)=true;simpa using hok) rfl)
end
section
variable{b:List UInt8}{last:Bool}
variable(b last)
def D5(k:Nat):Int×Int×Int:=if(gU b last k).2 !=0 then(0,0,(gU b last k).2)else if(gU b last k).1.Kind==0 then(0,0,10)else if !(((gU b last k).1.Kind==1)&&((gU b last k).1.V.Kind==2))then(0,0,11)else((gU b last k).1.V.N,(gU b last k).1.To,0)
def abY(k:Nat)(w:List UInt8):Int×Int:=if(gU b last k).2 !=0 then(0,(gU b last k).2)else if(gU b last k).1.Kind==0 then(0,10)else if !(((gU b last k).1.Kind==6)&&((gU b last k).1.S.b==w))then(0,11)else((gU b last k).1.To,0)
variable{b last}
variable(b)
def ad4:List UInt8:=[111,98,106]
def hdS(k:Nat):Int:=match b[k]? with
 |none=>0
 |some c=>if(decide ((c.toNat:Int)<48))||(decide ((c.toNat:Int)>57))then 0
  else if(((D5 b true k).2.2 !=0)||(decide ((D5 b true k).1<1)))||(decide ((D5 b true k).1>4096))then 0
  else if((D5 b true (D5 b true k).2.1.toNat).2.2 !=0)||((D5 b true (D5 b true k).2.1.toNat).1 !=0)then 0
  else if(abY b true (D5 b true (D5 b true k).2.1.toNat).2.1.toNat ad4).2==0 then(D5 b true k).1 else 0
variable{b}
def xL(b:List UInt8)(k:Nat):Bool:=((k:Int)==0)||Es (ix b ((k:Int) -1))||MU (ix b ((k:Int) -1))
theorem UU(k:Nat):beg b (k:Int)=some (xL b k):=by
 unfold beg xL
 cases((k:Int)==0)with
 |true=>rfl
 |false=>
  rw[cond_false,rY,bC]
  cases Es (ix b ((k:Int) -1))with
  |true=>rfl
  |false=>exact PK _
theorem Hl(hb:b.length<1048576)(k:Nat)(hk:k<b.length):fA b (k:Int)=some (xL b k):=by
 unfold fA xL
 have w1:ao ((k:Int) -1)=(k:Int) -1:=au (by omega) (by omega)
 rw[w1]
 cases h0:((k:Int)==0)with
 |true=>exact af (by simp) (ah (NP rfl) (af (by simp) (ah (NP rfl) rfl)))
 |false=>
  have h0':(k:Int)≠0:=by simpa using h0
  refine af (by omega) (ah (show dQ true false (cX _)=_ by rw[kS,oc]) (af (by omega) ?_))
  cases hs:Es (ix b ((k:Int) -1))with
  |true=>exact ah (NP rfl) rfl
  |false=>exact ah (show dQ true false (da _)=_ by rw[kS,vn]) rfl
def hS(b:List UInt8)(k:Nat):Int:=if xL b k then hdS b k else 0
end
theorem IG(p:Nat->Bool):∀n,(∀k,k<n->p k=true)\/∃j,j<n/\p j=false/\∀k,k<j->p k=true
 |0=>.inl fun k h=>absurd h (Nat.not_lt_zero k)
 |n+1=>by
  rcases IG p n with h|⟨j,h1,h2,h3⟩
  ·cases e:p n with
   |true=>
    refine .inl fun k hk=>?_
    rcases Nat.lt_or_ge k n with h'|h'
    ·exact h k h'
    ·have:k=n:=by omega
     subst this;exact e
   |false=>exact .inr ⟨n,by omega,e,h⟩
  ·exact .inr ⟨j,by omega,h2,h3⟩
theorem aaM{b:Bool}(h:(!b)=true):b=false:=by cases b<;>first|rfl|cases h
theorem ad2{b:Bool}(h:(!b)=false):b=true:=by cases b<;>first|rfl|cases h
theorem RI(v:aa)(key:aC)(hL:v.L.length<1073741824):∃i,gy v key=some i/\b4 v key=some i/\(i=-1\/(0<=i/\i<v.L.length)):=by
 by_cases hk:v.Kind=7
 ·have hk1:(v.Kind==7)=true:=by rw[hk];rfl
  have hk2:(v.Kind !=7)=false:=by show(!(v.Kind==7))=false;rw[hk1];rfl
  have w2:∀k:Nat,k<=4294967296->ao ((k:Int)+2)=((k+2:Nat):Int):=fun k hk=>by rw[au (by omega) (by omega)];omega
  rcases IG (fun k=>!(((ix v.L ((2*k:Nat):Int)).Kind==5)&&(((ix v.L ((2*k:Nat):Int)).S).b==key.b))) ((v.L.length+1)/2)with g|⟨j,g1,g2,g3⟩
  ·have lp:∀(B:Int->Option (Int⊕(Unit⊕Int))),(∀i:Nat,i<v.L.length->(((ix v.L (i:Int)).Kind==5)&&(((ix v.L (i:Int)).S).b==key.b))=false->B i=some (.inl (ao ((i:Int)+2))))->(∀i:Nat,v.L.length<=i->B (i:Int)=some (.inr (.inl ())))->iter B 0=some (.inl ()):=fun B hb he=>by
    refine gD ((v.L.length+1)/2) (fun k=>((2*k:Nat):Int)) rfl (by omega) (fun k hk=>?_) (he _ (by omega))
    rw[hb (2*k) (by omega) (aaM (g k hk)),w2 _ (by omega)];rfl
   refine⟨-1,?_,?_,.inl rfl⟩
   ·unfold gy
    rw[hk2]
    refine ae (by decide) (aN (z:=.inl ()) (gm (z:=.inl ()) (lp _ (fun i hi hc=>?_) (fun i hi=>ae (by simp;omega) rfl)) rfl) rfl)
    exact al (decide_eq_true (by omega)) (af ⟨by omega,by omega⟩ (af (fun _=>⟨by omega,by omega⟩) (ae (by rw[hc];decide) rfl)))
   ·unfold b4
    rw[hk1]
    refine aN (z:=.inl ()) (gm (z:=.inl ()) (lp _ (fun i hi hc=>?_) (fun i hi=>ae (by simp;omega) rfl)) rfl) rfl
    exact al (by simp;omega) (af ⟨by omega,by omega⟩ (af (fun _=>⟨by omega,by omega⟩) (ae (by rw[hc];decide) rfl)))
  ·have lp:∀(B:Int->Option (Int⊕(Unit⊕Int))),(∀i:Nat,i<v.L.length->(((ix v.L (i:Int)).Kind==5)&&(((ix v.L (i:Int)).S).b==key.b))=false->B i=some (.inl (ao ((i:Int)+2))))->(∀i:Nat,i<v.L.length->(((ix v.L (i:Int)).Kind==5)&&(((ix v.L (i:Int)).S).b==key.b))=true->B (i:Int)=some (.inr (.inr (i:Int))))->iter B 0=some (.inr ((2*j:Nat):Int)):=fun B hb he=>by
    refine gD j (fun k=>((2*k:Nat):Int)) rfl (by omega) (fun k hk=>?_) (he _ (by omega) (ad2 g2))
    rw[hb (2*k) (by omega) (aaM (g3 k hk)),w2 _ (by omega)];rfl
   refine⟨((2*j:Nat):Int),?_,?_,.inr ⟨by omega,by omega⟩⟩
   ·unfold gy
    rw[hk2]
    refine ae (by decide) (aN (z:=.inr ((2*j:Nat):Int)) (gm (z:=.inr ((2*j:Nat):Int)) (lp _ (fun i hi hc=>?_) (fun i hi hc=>?_)) rfl) rfl)
    ·exact al (decide_eq_true (by omega)) (af ⟨by omega,by omega⟩ (af (fun _=>⟨by omega,by omega⟩) (ae (by rw[hc];decide) rfl)))
    ·exact al (decide_eq_true (by omega)) (af ⟨by omega,by omega⟩ (af (fun _=>⟨by omega,by omega⟩) (al hc rfl)))
   ·unfold b4
    rw[hk1]
    refine aN (z:=.inr ((2*j:Nat):Int)) (gm (z:=.inr ((2*j:Nat):Int)) (lp _ (fun i hi hc=>?_) (fun i hi hc=>?_)) rfl) rfl
    ·exact al (by simp;omega) (af ⟨by omega,by omega⟩ (af (fun _=>⟨by omega,by omega⟩) (ae (by rw[hc];decide) rfl)))
    ·exact al (by simp;omega) (af ⟨by omega,by omega⟩ (af (fun _=>⟨by omega,by omega⟩) (al hc rfl)))
 ·have hk1:(v.Kind==7)=false:=by simpa using hk
  refine⟨-1,al (by show(!(v.Kind==7))=true;rw[hk1];rfl) rfl,?_,.inl rfl⟩
  unfold b4
  rw[hk1]
  exact aN (z:=.inl ()) (gm (z:=.inl ()) (mP 0 (by omega) (fun k hk=>by omega) (ae (by simp) rfl)) rfl) rfl
theorem O1(v:aa)(key:aC)(hL:v.L.length<1073741824):∃g,fZ v key=some g/\jC v key=some g/\(g.1.Kind=8->v.Kind=7):=by
 obtain⟨i,h1,h2,h3⟩:=RI v key hL
 have hz:((aa.mk 0 0 (aC.mk []) ([]:List aa)),false).1.Kind=8->v.Kind=7:=fun h=>by cases h
 rcases h3 with rfl|⟨h3,h4⟩
 ·exact⟨_,ah h1 (al (by decide) rfl),ah h2 (al (by decide) rfl),hz⟩
 ·have hk:v.Kind=7:=by
   by_cases hk:v.Kind=7
   ·exact hk
   ·unfold gy at h1
    rw[if_pos (by simpa using hk)]at h1
    injection h1 with h1
    omega
  have w1:ao (i+1)=i+1:=au (by omega) (by omega)
  have w2:ao ((v.L.length:Int) -1)=(v.L.length:Int) -1:=au (by omega) (by omega)
  have n0:¬decide (i<0)=true:=by simp;omega
  by_cases he:i+1=v.L.length
  ·exact⟨_,ah h1 (ae n0 (al (by rw[w1];simpa using he) rfl)),ah h2 (ae n0 (al (by rw[w2];simp;omega) rfl)),fun _=>hk⟩
  ·refine⟨(ix v.L (i+1),true),ah h1 (ae n0 (ae (by rw[w1];simpa using he) ?_)),ah h2 (ae n0 (ae (by rw[w2];simp;omega) ?_)),fun _=>hk⟩
   ·rw[w1];exact af ⟨by omega,by omega⟩ rfl
   ·rw[w1];exact af ⟨by omega,by omega⟩ rfl
def Ft:aC:=⟨[82,111,111,116]⟩
section
variable{b:List UInt8}
theorem FW(hb:b.length<1048576)(k:Nat)(hk:k+7<=b.length):∃r g,jB b ((k:Int)+7) true=some r/\dP b ((k:Int)+7) true=some r/\fZ r.1 Ft=some g/\jC r.1 Ft=some g/\(g.1.Kind=8->r.1.Kind=7)/\Wd 67 r.1:=by
 obtain⟨r,h1,h2,h3⟩:=Lo (b:=b) (last:=true) hb (k:=k+7) hk
 obtain⟨g,g1,g2,g3⟩:=O1 r.1 Ft (by have:=h3.1;omega)
 exact⟨r,g,h1,h2,g1,g2,g3,h3⟩
def xO(b:List UInt8)(k:Nat):Option aa:=
 if xL b k=true/\k+7<=b.length/\part b (k:Int) ((k:Int)+7)=JZ then
  match jB b ((k:Int)+7) true with
  |some r=>(match fZ r.1 Ft with
   |some g=>if(r.2.2==0)&&(g.1.Kind==8)then some r.1 else none
   |none=>none)
  |none=>none
 else none
def gi(b:List UInt8):Nat->aa×Bool
 |0=>(zV,false)
 |k+1=>match xO b k with|some v=>(v,true)|none=>gi b k
theorem Np{k:Nat}(h:k+7<=b.length):part (part b (k:Int) (b.length:Int)) 0 7=part b (k:Int) ((k:Int)+7):=by
 unfold part
 have e1:((b.length:Int) -(k:Int)).toNat=b.length -k:=by omega
 have e2:((7:Int) -0).toNat=7:=rfl
 have e3:((k:Int)+7 -(k:Int)).toNat=7:=by omega
 have e4:(k:Int).toNat=k:=rfl
 have e5:(0:Int).toNat=0:=rfl
 rw[e1,e2,e3,e4,e5,List.drop_zero,List.take_take,Nat.min_eq_left (by omega)]
theorem ZT{k:Nat}(hk:k<b.length):ff (part b (k:Int) (b.length:Int)) JZ=some (decide (k+7<=b.length/\part b (k:Int) ((k:Int)+7)=JZ)):=by
 have hl:=CI (b:=b) (k:=k) (e:=b.length) (by omega) (Nat.le_refl _)
 unfold ff jx
 have t7:((JZ.length:Nat):Int)=7:=rfl
 rw[t7]
 by_cases h:k+7<=b.length
 ·have d:decide (((part b (k:Int) (b.length:Int)).length:Int)>=7)=true:=decide_eq_true (by omega)
  rw[d]
  refine af (fun _=>by omega) ?_
  rw[Np h]
  show some (true&&(part b (k:Int) ((k:Int)+7)==JZ))=_
  rw[Bool.true_and]
  congr 1
  rw[Bool.eq_iff_iff]
  simp[h]
 ·have d:decide (((part b (k:Int) (b.length:Int)).length:Int)>=7)=false:=decide_eq_false (by omega)
  rw[d]
  refine af (fun h=>by cases h) ?_
  show some (false&&_)=_
  rw[decide_eq_false (fun h'=>h h'.1)];rfl
theorem vL{k:Nat}(h:¬(xL b k=true/\k+7<=b.length/\part b (k:Int) ((k:Int)+7)=JZ)):xO b k=none:=if_neg h
theorem BC{k:Nat}(h:xL b k=true/\k+7<=b.length/\part b (k:Int) ((k:Int)+7)=JZ){r:aa×Int×Int}{g:aa×Bool}(h1:jB b ((k:Int)+7) true=some r)(h2:fZ r.1 Ft=some g):xO b k=if(r.2.2==0)&&(g.1.Kind==8)then some r.1 else none:=by
 unfold xO
 rw[if_pos h,h1]
 show(match fZ r.1 Ft with|some g=>_|none=>none)=_
 rw[h2]
theorem UZ(hb:b.length<1048576){k:Nat}{v:aa}(h:xO b k=some v):Wd 67 v:=by
 by_cases hc:xL b k=true/\k+7<=b.length/\part b (k:Int) ((k:Int)+7)=JZ
 ·obtain⟨r,g,h1,_,h3,_,_,h5⟩:=FW hb k hc.2.1
  rw[BC hc h1 h3]at h
  split at h
  ·injection h with h;rw[<-h];exact h5
  ·cases h
 ·rw[vL hc]at h;cases h
theorem L9(hb:b.length<1048576):∀k,Wd 67 (gi b k).1
 |0=>Wd.leaf rfl
 |k+1=>by
  unfold gi
  cases h:xO b k with
  |none=>exact L9 hb k
  |some v=>exact UZ hb h
theorem NK(hb:b.length<1048576):iB b=some (gi b b.length):=by
 unfold iB
 refine gD b.length (fun k=>(gi b k,(k:Int))) rfl (by omega) (fun k hk=>?_) ?_
 ·have same:xO b k=none->gi b (k+1)=gi b k:=fun h=>by show(match xO b k with|some v=>(v,true)|none=>gi b k)=_;rw[h]
  unfold Fu
  have hlt:decide ((k:Int)<(b.length:Int))=true:=by simp;omega
  show(bif decide ((k:Int)<(b.length:Int))then _ else _)=_
  rw[hlt,cond_true]
  refine af (by omega) (ah (UU k) ?_)
  cases hbg:xL b k with
  |false=>rw[cond_false,same (vL (by rw[hbg];simp))];rfl
  |true=>
   rw[cond_true]
   refine ah (a:=gi b (k+1)) ?_ rfl
   unfold zj
   refine af (by omega) (ah (ZT hk) ?_)
   by_cases hc:k+7<=b.length/\part b (k:Int) ((k:Int)+7)=JZ
   ·rw[decide_eq_true hc,Bool.not_true,cond_false]
    obtain⟨r,g,h1,_,h3,_,_,_⟩:=FW hb k hc.1
    refine ah h1 (ah h3 ?_)
    have:=BC ⟨hbg,hc⟩ h1 h3
    show(bif(r.2.2==0)&&(g.1.Kind==8)then some (r.1,true)else some (gi b k))=some (match xO b k with|some v=>(v,true)|none=>gi b k)
    rw[this]
    cases((r.2.2==0)&&(g.1.Kind==8))<;>rfl
   ·rw[decide_eq_false hc,Bool.not_false,cond_true,same (vL (fun h=>hc h.2))]
 ·unfold Fu
  have hlt:decide ((b.length:Int)<(b.length:Int))=false:=by simp
  show(bif decide ((b.length:Int)<(b.length:Int))then _ else _)=_
  rw[hlt,cond_false]
theorem NA(hb:b.length<1048576):iV b=some (gi b b.length):=by
 have late:∀n,b.length<=n+6->n<=b.length->gi b b.length=gi b n:=fun n h1 h2=>by
  obtain⟨d,hd⟩:∃d,b.length=n+d:=⟨b.length -n,by omega⟩
  have key:∀i,gi b (n+i)=gi b n:=fun i=>by
   induction i with
   |zero=>rfl
   |succ i ih=>
    show(match xO b (n+i)with|some v=>(v,true)|none=>gi b (n+i))=_
    rw[vL (fun h=>by have:=h.2.1;omega)]
    exact ih
  rw[hd];exact key d
 unfold iV
 have w0:ao ((b.length:Int) -7)=(b.length:Int) -7:=au (by omega) (by omega)
 rw[w0]
 have loop:∀body:Int->Option (Int⊕(Unit⊕(aa×Bool))),(∀k:Nat,k+7<=b.length->body (k:Int)=match xO b k with|some v=>some (.inr (.inr (v,true)))|none=>some (.inl ((k:Int) -1)))->(∀i:Int,i<0->body i=some (.inr (.inl ())))->
  ∃z,iter body ((b.length:Int) -7)=some z/\(match z with|.inl _=>(zV,false)|.inr x=>x)=gi b b.length:=fun body h1 h2=>by
  refine dn (fun i=>i<0/\gi b b.length=(zV,false)\/∃k:Nat,i=(k:Int)/\k+7<=b.length/\gi b b.length=gi b (k+1)) (fun i=>(i+1).toNat) _ ?_ (by omega) ?_
  ·by_cases h:7<=b.length
   ·exact .inr ⟨b.length -7,by omega,by omega,late _ (by omega) (by omega)⟩
   ·exact .inl ⟨by omega,late 0 (by omega) (by omega)⟩
  ·rintro i (⟨hi,hz⟩|⟨k,rfl,hk,hz⟩)
   ·exact⟨_,h2 i hi,hz.symm⟩
   ·have hb1:=h1 k hk
    have hz2:gi b b.length=match xO b k with|some v=>(v,true)|none=>gi b k:=hz
    cases hc:xO b k with
    |some v=>
     rw[hc]at hb1 hz2
     exact⟨_,hb1,hz2.symm⟩
    |none=>
     rw[hc]at hb1 hz2
     refine⟨_,hb1,?_,by show((k:Int) -1+1).toNat<((k:Int)+1).toNat;omega⟩
     cases k with
     |zero=>exact .inl ⟨by omega,hz2⟩
     |succ k=>exact .inr ⟨k,by omega,by omega,hz2⟩
 obtain⟨z,hz1,hz2⟩:=loop (fun(k4:Int)=>
  if decide (k4>=0)then
   oU (
    ba (fA b k4) fun r13=>
    aH ((!(!r13))=true->0<=k4/\k4<=ao (k4+7)/\ao (k4+7)<=b.length)<|
    if(!r13)||(!((aC.mk (part b k4 (ao (k4+7)))).b==(aC.mk [116,114,97,105,108,101,114]).b))then
     some (.inl ())
    else
     ba (dP b (ao (k4+7)) true) fun r14=>
     ba (jC r14.1 (aC.mk [82,111,111,116])) fun r15=>
     if((r14.2.2==0)&&(r14.1.Kind==7))&&(r15.1.Kind==8)then
      some (.inr (r14.1,true))
     else
      some (.inl ())) (fun(_:Unit)=>
    some (.inl (ao (k4 -1))))
   (fun((t11,t12):aa×Bool)=>some (.inr (.inr (t11,t12))))
  else
   some (.inr (.inl ()))) (fun k hk=>by
  have w7:ao ((k:Int)+7)=(k:Int)+7:=au (by omega) (by omega)
  have w1:ao ((k:Int) -1)=(k:Int) -1:=au (by omega) (by omega)
  refine al (by simp) ?_
  rw[w7,w1]
  by_cases hc:xL b k=true/\k+7<=b.length/\part b (k:Int) ((k:Int)+7)=JZ
  ·obtain⟨r,g,h1,h2,h3,h4,h5,_⟩:=FW hb k hk
   rw[BC hc h1 h3]
   have hno:¬((!xL b k)||(!((aC.mk (part b (k:Int) ((k:Int)+7))).b==(aC.mk [116,114,97,105,108,101,114]).b)))=true:=by rw[hc.1,hc.2.2];decide
   cases hr:((r.2.2==0)&&(g.1.Kind==8))with
   |true=>
    have hk7:(r.1.Kind==7)=true:=by
     have:(g.1.Kind==8)=true:=(Bool.and_eq_true_iff.1 hr).2
     simpa using h5 (by simpa using this)
    refine aN (z:=.inr (r.1,true)) (ah (Hl hb k (by omega)) (af (fun _=>by omega) (ae hno (ah h2 (ah h4 (al ?_ rfl)))))) rfl
    rw[hk7,Bool.and_true];exact hr
   |false=>
    refine aN (z:=.inl ()) (ah (Hl hb k (by omega)) (af (fun _=>by omega) (ae hno (ah h2 (ah h4 (ae ?_ rfl)))))) rfl
    intro h
    rw[Bool.and_eq_true_iff,Bool.and_eq_true_iff]at h
    rw[h.1.1,h.2]at hr;cases hr
  ·rw[vL hc]
   refine aN (z:=.inl ()) (ah (Hl hb k (by omega)) (af (fun _=>by omega) (al ?_ rfl))) rfl
   cases hbg:xL b k with
   |false=>rfl
   |true=>
    have hp:part b (k:Int) ((k:Int)+7)≠JZ:=fun h=>hc ⟨hbg,hk,h⟩
    have:((aC.mk (part b (k:Int) ((k:Int)+7))).b==(aC.mk [116,114,97,105,108,101,114]).b)=false:=by
     cases hx:((aC.mk (part b (k:Int) ((k:Int)+7))).b==(aC.mk [116,114,97,105,108,101,114]).b)with
     |false=>rfl
     |true=>
      have hx':part b (k:Int) ((k:Int)+7)=[116,114,97,105,108,101,114]:=by simpa using hx
      exact absurd hx' hp
    rw[this];rfl) (fun i hi=>ae (by simp;omega) rfl)
 cases z with
 |inl u=>
  have hz2:(zV,false)=gi b b.length:=hz2
  rw[<-hz2]
  exact aN (z:=.inl ()) (gm (z:=.inl ()) hz1 rfl) rfl
 |inr x=>
  have hz2:x=gi b b.length:=hz2
  rw[<-hz2]
  exact aN (z:=.inr x) (gm (z:=.inr x) hz1 rfl) rfl
theorem Ik:∀(n:Nat)(v:aa)(fuel:Nat),Wd n v->n<=fuel->cM fuel v v=some 0
 |0,_,_,h,_=>h.elim
 |n+1,v,0,_,h=>by omega
 |n+1,v,fuel+1,h,hf=>by
  obtain⟨h1,h2⟩:=h
  rw[cM]
  have b0:Op.bytesLess v.S.b v.S.b=false:=nP _
  have lp:iter (fun(k4:Int)=>
   if(decide (k4<(v.L.length:Int)))&&(decide (k4<(v.L.length:Int)))then
    aH (0<=k4/\k4<v.L.length)<|
    aH (0<=k4/\k4<v.L.length)<|
    ba (cM fuel (ix v.L k4) (ix v.L k4)) fun r8=>
    if r8 !=0 then
     some (.inr (.inr r8))
    else
     some (.inl (ao (k4+1)))
   else
    some (.inr (.inl ():Unit⊕Int))) 0=some (.inl ()):=by
   refine mP v.L.length (by omega) (fun k hk=>?_) (ae (by simp) rfl)
   have hx:ix v.L (k:Int)=v.L[k]:=jZ hk
   exact al (by simp;omega) (af ⟨by omega,by omega⟩ (af ⟨by omega,by omega⟩ (ah (by rw[hx];exact Ik n _ fuel (h2 _ (List.getElem_mem hk)) (by omega)) (ae (by decide) rfl))))
  refine ae (by rw[b0];simp) (ae (by simp) (aN (z:=.inl ()) (gm (z:=.inl ()) lp rfl) ?_))
  exact ae (by simp) (ae (by simp) rfl)
theorem NC{v:aa}(h:Wd 67 v):mZ v v=some true:=by
 unfold mZ
 have hb:67<=FP:=by decide
 exact ah (Ik 67 v FP h hb) rfl
end
end Go.AB
end
