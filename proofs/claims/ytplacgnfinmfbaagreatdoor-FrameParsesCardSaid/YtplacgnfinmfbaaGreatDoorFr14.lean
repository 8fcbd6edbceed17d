/- A part. -/
import Derived.Test.YtplacgnfinmfbaaGreatDoorFr13
set_option linter.defProp false
set_option linter.unusedSimpArgs false
set_option linter.unusedVariables false
section
namespace Go.AB
open Go
def gh(l:List Int)(s:ZS):ZS:=if yG l<0 then s.fail 13 else s
def pn(l:List Int)(s:ZS):(gh l s).at_=s.at_/\(gh l s).out=s.out/\((gh l s).e=0->s.e=0/\0<=yG l):=by
 unfold gh
 have:=eX s 13 BY
 split
 ·exact⟨this.1,this.2.1,fun h=>absurd h this.2.2⟩
 ·exact⟨rfl,rfl,fun h=>⟨h,AT⟩⟩
section
variable{b:List UInt8}{most:Int}
def rCd(l:List Int)(s:ZS):∃cd,fZ (jX b most s) l=some (cd,jX b most (gh l s))/\(s.e=0->0<=yG l->DR l cd):=by
 unfold fZ gh
 by_cases he:s.e=0
 ·obtain⟨cd,h1,h2⟩:=Ye l
  rw[if_neg I_,h1,aB]
  by_cases hk:0<=yG l
  ·rw[if_pos hk,if_neg (c:=yG l<0) AT]
   refine⟨cd,?_,fun _ h=>h2 h⟩
   show aL (aO (jX b most s) 0) _=_
   rw[qM,aB]
   simp[ZS.fail,he]
  ·rw[if_neg hk,if_pos (c:=yG l<0) AT]
   refine⟨[],?_,fun _ h=>absurd h hk⟩
   show aL (aO (jX b most s) 13) _=_
   rw[qM,aB]
 ·rw[if_pos I_]
  refine⟨[],?_,fun h=>absurd h he⟩
  unfold ZS.fail
  rw[if_neg he]
  split<;>rfl
theorem BN{lt ld:List Int}{s:ZS}(he:s.e≠0)(f:Nat):oY (af b) most lt ld f s=s:=by
 cases f with
 |zero=>rfl
 |succ f=>
  have e:pV (af b) most lt ld s=(false,s):=by
   unfold pV dv
   simp[he]
  rw[oY,e];rfl
theorem acw{s:ZS}(hM:most<=16777216)(h:ZI b most s){len far:Int}(h0:0<=len)(h2:¬far>s.out.length)(h3:¬len>most -s.out.length)(hf:1<=far):
 iter (fun((k42,o43):Int×aJ)=>
  if decide (k42<len)then
   aI (0<=ao ((o43.Out.length:Int) -far)/\ao ((o43.Out.length:Int) -far)<o43.Out.length)<|
   aI ((o43.Out.length+[ix o43.Out (ao ((o43.Out.length:Int) -far))].length)*1<=room)<|
   some (.inl (ao (k42+1),(aJ.mk o43.B o43.At o43.E (o43.Out++[ix o43.Out (ao ((o43.Out.length:Int) -far))]) o43.uT)))
  else
   some (.inr o43)) (0,jX b most s)=some (jX b most {s with out:=ym len.toNat far s.out}):=by
 have bP:room=140737488355328:=rfl
 obtain⟨ha,ho⟩:=h
 refine iter_eq (fun(z:Int×aJ)=>∃k:Nat,∃o:List UInt8,k<=len.toNat/\z=((k:Int),jX b most {s with out:=o})/\ym (len.toNat -k) far o=ym len.toNat far s.out/\s.out.length+k=o.length) (fun z=>(len -z.1).toNat) ⟨0,s.out,Nat.zero_le _,rfl,rfl,rfl⟩ By ?_
 rintro _ ⟨k,o,hk,rfl,hz,hol⟩
 by_cases hlt:k<len.toNat
 ·obtain⟨f,hff⟩:∃f,len.toNat -k=f+1:=⟨len.toNat -k -1,AT⟩
  rw[hff,ym]at hz
  simp only
  rw[ak (n:=(o.length:Int) -far) AT AT,ak (n:=(k:Int)+1) AT AT]
  refine .inl ⟨_,?_,⟨k+1,o++[ix o ((o.length:Int) -far)],hlt,rfl,by rw[show len.toNat -(k+1)=f by omega];exact hz,By⟩,Θ⟩
  rw[if_pos By,aP AT,aP By]
  rfl
 ·rw[show len.toNat -k=0 by omega,ym]at hz
  subst hz
  simp only
  rw[if_neg By]
  exact .inr rfl
def aam(b:List UInt8)(most:Int)(lt ld:List Int)(s:ZS):aJ⊕aJ->Prop
 |.inl t=>∃t',t=jX b most t'/\pV (af b) most lt ld s=(true,t')
 |.inr t=>∃t',t=jX b most t'/\(pV (af b) most lt ld s=(false,t')\/(pV (af b) most lt ld s=(true,t')/\t'.e≠0))
def acy(hb:b.length<576460752303423488)(hM:most<=16777216){lt ld:List Int}(hlt:va lt)(hld:va ld){lc dc:List UInt32}(hlc:DR lt lc)(hdc:DR ld dc){s:ZS}(h:ZI b most s):
 ∃z,(aL (cJ (jX b most s) lt lc) fun r14=>
     if(r14.2.E !=0)||(r14.1==256)then
      some (.inr r14.2)
     else
      if decide (r14.1<256)then
       aL (fB r14.2 r14.1) fun r15=>
       some (.inl r15)
      else
       aL (fR r14.1) fun r16=>
       jn (
        if !r16.2.2 then
         aL (aO r14.2 11) fun r25=>
         some r25
        else
         some r14.2) fun(o24:aJ)=>
       aL (ba o24 r16.2.1) fun r26=>
       aL (cJ r26.2 ld dc) fun r27=>
       aL (eQ r27.1) fun r28=>
       jn (
        if(r27.2.E==0)&&(!r28.2.2)then
         aL (aO r27.2 11) fun r38=>
         some r38
        else
         some r27.2) fun(o37:aJ)=>
       aL (ba o37 r28.2.1) fun r39=>
       if r39.2.E !=0 then
        some (.inr r39.2)
       else
        if decide (ao (r28.1+r39.1)>(r39.2.Out.length:Int))then
         aL (aO r39.2 14) fun r40=>
         some (.inl r40)
        else
         if decide (ao (r16.1+r26.1)>ao (r39.2.uT -(r39.2.Out.length:Int)))then
          aL (aO r39.2 3) fun r41=>
          some (.inl r41)
         else
          aL (
           iter (fun((k42,o43):Int×aJ)=>
            if decide (k42<ao (r16.1+r26.1))then
             aI (0<=ao ((o43.Out.length:Int) -(ao (r28.1+r39.1)))/\ao ((o43.Out.length:Int) -(ao (r28.1+r39.1)))<o43.Out.length)<|
             aI ((o43.Out.length+[ix o43.Out (ao ((o43.Out.length:Int) -(ao (r28.1+r39.1))))].length)*1<=room)<|
             some (.inl (ao (k42+1),(aJ.mk o43.B o43.At o43.E (o43.Out++[ix o43.Out (ao ((o43.Out.length:Int) -(ao (r28.1+r39.1))))]) o43.uT)))
            else
             some (.inr o43)) (0,r39.2)) fun(o49:aJ)=>
          some (.inl o49))=some z/\aam b most lt ld s z:=by
 have hs:=nW (b:=b) (l:=lt) h.1
 have hz:ZI b most (dv (af b) lt s).2:=⟨hs.1,by rw[hs.2.2.2.2.1];exact h.2⟩
 have hT:pV (af b) most lt ld s=if(dv (af b) lt s).2.e≠0\/(dv (af b) lt s).1=256 then(false,(dv (af b) lt s).2)else if(dv (af b) lt s).1<256 then(true,wH most (eR (dv (af b) lt s).1) (dv (af b) lt s).2)else(true,JY (af b) most ld (dv (af b) lt s)):=rfl
 refine BU (fun z=>z=((dv (af b) lt s).1,jX b most (dv (af b) lt s).2)) ⟨_,Yg hb hlt hlc h.1,rfl⟩ ?_
 rintro _ rfl
 generalize dv (af b) lt s=r at*
 simp only
 by_cases h1:r.2.e≠0\/r.1=256
 ·rw[if_pos h1]at hT
  rw[if_pos K_]
  exact⟨_,rfl,_,rfl,.inl hT⟩
 ·rw[if_neg h1]at hT
  rw[if_neg K_]
  have he:r.2.e=0:=by
   by_cases he:r.2.e=0
   ·exact he
   ·exact absurd (.inl he) h1
  by_cases h2:r.1<256
  ·rw[if_pos h2]at hT
   rw[if_pos Y_,acv hM,aB]
   exact⟨_,rfl,_,rfl,hT⟩
  ·rw[if_neg h2]at hT
   rw[if_neg Y_]
   obtain⟨_,hL1,hL2,hL3,hL4,hL5⟩:=Gy r.1
   rw[hL1,aB]
   unfold JY at hT
   simp only at hT⊢
   have hf:=eX r.2 11 BY
   generalize hs2:(if(gZ r.1).2.2=true then r.2 else r.2.fail 11)=s2 at hT
   have h2:s2.at_=r.2.at_/\s2.out=r.2.out:=Xf2
   refine zM (fun z=>z=jX b most s2) ⟨_,?_,rfl⟩ ?_
   ·subst hs2
    cases(gZ r.1).2.2 with
    |true=>rfl
    |false=>
     show aL (aO (jX b most r.2) 11) _=_
     rw[qM,aB];rfl
   ·rintro _ rfl
    have hn:=cz (b:=b) (n:=(gZ r.1).2.1.toNat) (s:=s2) Xf3
    have hN:=CX (b:=b) (most:=most) hb (n:=(gZ r.1).2.1.toNat) (s:=s2) AT Xf3
    rw[show(((gZ r.1).2.1.toNat:Nat):Int)=(gZ r.1).2.1 by omega]at hN
    rw[hN,aB]
    have hnn:((ar (af b) (gZ r.1).2.1.toNat s2).1)<32:=by
     have hp:(2:Int)^(gZ r.1).2.1.toNat<=2^5:=Bj AT
     have:=hn.2.2.2.1
     have e5:(2:Int)^5=32:=BY
     omega
    generalize ar (af b) (gZ r.1).2.1.toNat s2=m at*
    have hy:=nW (b:=b) (l:=ld) (s:=m.2) hn.1
    simp only
    rw[Yg hb hld hdc hn.1,aB]
    generalize dv (af b) ld m.2=y at*
    obtain⟨_,hD1,hD2,hD3,hD4,hD5,hD6⟩:=Ln y.1
    simp only
    rw[hD1,aB]
    have hf:=eX y.2 11 BY
    generalize hs5:(if(gj y.1).2.2=true then y.2 else y.2.fail 11)=s5 at hT
    have h5:s5.at_=y.2.at_/\s5.out=y.2.out/\(s5.e=0->(gj y.1).2.2=true):=by
     subst hs5
     split
     ·rename_i hd;exact⟨rfl,rfl,fun _=>hd⟩
     ·exact⟨hf.1,hf.2.1,fun e=>absurd e hf.2.2⟩
    refine zM (fun z=>z=jX b most s5) ⟨_,?_,rfl⟩ ?_
    ·subst hs5
     cases hd:(gj y.1).2.2 with
     |true=>simp
     |false=>
      by_cases hy0:y.2.e=0
      ·simp only[hy0,Bool.not_false]
       show aL (aO (jX b most y.2) 11) _=_
       rw[qM,aB];rfl
      ·rw[if_neg (by simp[hy0])]
       unfold ZS.fail
       rw[if_neg hy0];rfl
    ·rintro _ rfl
     have hq:=cz (b:=b) (n:=(gj y.1).2.1.toNat) (s:=s5) (by rw[h5.1];exact hy.1)
     have hQ:=CX (b:=b) (most:=most) hb (n:=(gj y.1).2.1.toNat) (s:=s5) AT (by rw[h5.1];exact hy.1)
     rw[show(((gj y.1).2.1.toNat:Nat):Int)=(gj y.1).2.1 by omega]at hQ
     rw[hQ,aB]
     have hqq:((ar (af b) (gj y.1).2.1.toNat s5).1)<8192:=by
      have hp:(2:Int)^(gj y.1).2.1.toNat<=2^13:=Bj AT
      have:=hq.2.2.2.1
      have e5:(2:Int)^13=8192:=BY
      omega
     generalize ar (af b) (gj y.1).2.1.toNat s5=q at*
     have hzq:ZI b most q.2:=⟨hq.1,by rw[hq.2.2.2.2.1,h5.2.1,hy.2.2.2.2.1,hn.2.2.2.2.1,h2.2];exact hz.2⟩
     simp only
     rw[ak (n:=(gZ r.1).1+m.1) AT AT,ak (n:=(gj y.1).1+q.1) AT AT,ak (n:=most -(q.2.out.length:Int)) (by have:=hzq.2;omega) AT]
     unfold Jm at hT
     by_cases hqe:q.2.e=0
     ·rw[if_neg (c:=q.2.e≠0) (by simp[hqe])]at hT
      rw[if_neg (by simp[hqe])]
      by_cases g2:(gj y.1).1+q.1>q.2.out.length
      ·rw[if_pos g2]at hT
       rw[if_pos Xf4,qM,aB]
       exact⟨_,rfl,_,rfl,by rw[hT];simp[ZS.fail,hqe]⟩
      ·rw[if_neg g2]at hT
       rw[if_neg Xf4]
       by_cases g3:(gZ r.1).1+m.1>most -q.2.out.length
       ·rw[if_pos g3]at hT
        rw[if_pos (by simpa using g3),qM,aB]
        exact⟨_,rfl,_,rfl,by rw[hT];simp[ZS.fail,hqe]⟩
       ·rw[if_neg g3]at hT
        rw[if_neg (by simpa using g3)]
        rw[acw hM hzq AT g2 g3 (by have:=hD6 (h5.2.2 (hq.2.2.2.2.2 hqe).1);omega),aB]
        exact⟨_,rfl,_,rfl,hT⟩
     ·rw[if_pos hqe]at hT
      rw[if_pos (by simp[hqe])]
      exact⟨_,rfl,_,rfl,.inr ⟨hT,hqe⟩⟩
def Yd(hb:b.length<72057594037927936)(hM:most<=16777216)(lt ld:List Int){s:ZS}(h:ZI b most s):mV (jX b most s) lt ld=some (jX b most (oY (af b) most lt ld (8*b.length+2) (gh ld (gh lt s)))):=by
 have hbl:=k9 b
 unfold mV
 obtain⟨lc,hc1,hc2⟩:=rCd (b:=b) (most:=most) lt s
 have e1:=pn lt s
 generalize gh lt s=s1 at*
 obtain⟨dc,hd1,hd2⟩:=rCd (b:=b) (most:=most) ld s1
 have e2:=pn ld s1
 generalize gh ld s1=s2 at*
 rw[hc1,aB]
 simp only
 rw[hd1,aB]
 have h2:ZI b most s2:=⟨by rw[e2.1,e1.1];exact h.1,by rw[e2.2.1,e1.2.1];exact h.2⟩
 generalize hR:oY (af b) most lt ld (8*b.length+2) s2=R
 have m6:∀z:aJ⊕aJ,ir (fun x=>x) (fun x=>x) z=jX b most R->lJ (some z) (fun(o5:aJ)=>some o5) (fun(o6:aJ)=>some o6)=some (jX b most R):=by
  rintro(z|z) hz
  ·exact congrArg some hz
  ·exact congrArg some hz
 obtain⟨z,hz1,hz2⟩:=cF (body:=fun((n3,o4):Int×aJ)=>
  if(decide (n3<=ao (8*(o4.B.length:Int))))&&(o4.E==0)then
   nD (
    aL (cJ o4 lt lc) fun r14=>
    if(r14.2.E !=0)||(r14.1==256)then
     some (.inr r14.2)
    else
     if decide (r14.1<256)then
      aL (fB r14.2 r14.1) fun r15=>
      some (.inl r15)
     else
      aL (fR r14.1) fun r16=>
      jn (
       if !r16.2.2 then
        aL (aO r14.2 11) fun r25=>
        some r25
       else
        some r14.2) fun(o24:aJ)=>
      aL (ba o24 r16.2.1) fun r26=>
      aL (cJ r26.2 ld dc) fun r27=>
      aL (eQ r27.1) fun r28=>
      jn (
       if(r27.2.E==0)&&(!r28.2.2)then
        aL (aO r27.2 11) fun r38=>
        some r38
       else
        some r27.2) fun(o37:aJ)=>
      aL (ba o37 r28.2.1) fun r39=>
      if r39.2.E !=0 then
       some (.inr r39.2)
      else
       if decide (ao (r28.1+r39.1)>(r39.2.Out.length:Int))then
        aL (aO r39.2 14) fun r40=>
        some (.inl r40)
       else
        if decide (ao (r16.1+r26.1)>ao (r39.2.uT -(r39.2.Out.length:Int)))then
         aL (aO r39.2 3) fun r41=>
         some (.inl r41)
        else
         aL (
          iter (fun((k42,o43):Int×aJ)=>
           if decide (k42<ao (r16.1+r26.1))then
            aI (0<=ao ((o43.Out.length:Int) -(ao (r28.1+r39.1)))/\ao ((o43.Out.length:Int) -(ao (r28.1+r39.1)))<o43.Out.length)<|
            aI ((o43.Out.length+[ix o43.Out (ao ((o43.Out.length:Int) -(ao (r28.1+r39.1))))].length)*1<=room)<|
            some (.inl (ao (k42+1),(aJ.mk o43.B o43.At o43.E (o43.Out++[ix o43.Out (ao ((o43.Out.length:Int) -(ao (r28.1+r39.1))))]) o43.uT)))
           else
            some (.inr o43)) (0,r39.2)) fun(o49:aJ)=>
         some (.inl o49)) (fun(o12:aJ)=>
    some (.inl (ao (n3+1),o12)))
   (fun(o13:aJ)=>some (.inr (.inr o13)))
  else
   some (.inr (.inl o4))) (s0:=(0,jX b most s2)) (fun z=>∃(k f:Nat)(t:ZS),z=((k:Int),jX b most t)/\ZI b most t/\k<=8*b.length+1/\(t.e=0->k<=t.at_)/\(t.e=0->s2.e=0)/\mu b t<f/\oY (af b) most lt ld f t=R)
  (fun z=>(8*b.length+2 -z.1).toNat) (fun z=>ir (fun x=>x) (fun x=>x) z=jX b most R) ⟨0,8*b.length+2,s2,rfl,h2,Nat.zero_le _,fun _=>Nat.zero_le _,fun h=>h,by unfold mu;split<;>omega,hR⟩ By (by
    rintro _ ⟨k,f,t,rfl,ht,hk,hkt,hte,hf,hz⟩
    simp only
    by_cases he:t.e=0
    ·have hkt:=hkt he
     have ha:=ht.1
     rw[ak (n:=8*((af b).length:Int)) AT AT,if_pos Xb5]
     have hs1:=e2.2.2 (hte he)
     have hs0:=e1.2.2 hs1.1
     obtain⟨f,rfl⟩:∃g,f=g+1:=⟨f -1,AT⟩
     rw[oY]at hz
     have hZI:=A5 (lt:=lt) (ld:=ld) ht
     have hmu:=Lg (lt:=lt) (ld:=ld) ht
     refine gy (aam b most lt ld t) (acy AT hM (tu hs0.2) (tu hs1.2) (hc2 hs0.1 hs0.2) (hd2 hs1.1 hs1.2) ht) ?_
     rintro(z|z) hzz
     ·obtain⟨t',rfl,hT⟩:=hzz
      rw[hT]at hz hZI hmu
      have h3:=hZI.2.2 rfl
      have h4:=hmu rfl
      simp only at h3 h4
      refine⟨_,rfl,⟨k+1,f,t',?_,hZI.1,AT,fun _=>AT,fun h=>hte he,AT,hz⟩,?_⟩
      ·rw[ak AT AT];rfl
      ·simp only[ak (n:=(k:Int)+1) AT AT];omega
     ·obtain⟨t',rfl,hT⟩:=hzz
      refine⟨_,rfl,?_⟩
      rcases hT with hT|⟨hT,ae5⟩
      ·rw[hT]at hz
       simp only[Bool.false_eq_true,if_false]at hz
       rw[hz];rfl
      ·rw[hT]at hz
       simp only[if_true]at hz
       rw[BN ae5]at hz
       rw[hz];rfl
    ·rw[if_neg I_]
     rw[BN he]at hz
     exact⟨_,rfl,by rw[hz];rfl⟩)
 grind
end
def Bp(n:Nat)(out:List Int)(t x:Int)(s:ZS):List Int×ZS:=if s.e≠0 then(out,s)else if t>(n:Int) -out.length then(out,s.fail 11)else(out++List.replicate t.toNat x,s)
def Be(B:List Bool)(l:List Int)(n:Nat)(out:List Int)(s:ZS):List Int×ZS:=
 let r:=dv B l s
 if r.1=16 then(if out=[]then(out,r.2.fail 11)else Bp n out ((ar B 2 r.2).1+3) (out.getLastD 0) (ar B 2 r.2).2)
 else if r.1=17 then Bp n out ((ar B 3 r.2).1+3) 0 (ar B 3 r.2).2
 else if r.1=18 then Bp n out ((ar B 7 r.2).1+11) 0 (ar B 7 r.2).2
 else Bp n out 1 r.1 r.2
def qZ(B:List Bool)(l:List Int)(n:Nat):Nat->List Int->ZS->List Int×ZS
 |0,out,s=>(out,s)
 |f+1,out,s=>if out.length=n\/s.e≠0 then(out,s)else qZ B l n f (Be B l n out s).1 (Be B l n out s).2
section
variable{b:List UInt8}{most:Int}
theorem KU{n:Nat}{out:List Int}{t x:Int}{s:ZS}(ho:out.length<=n)(ht:1<=t):(Bp n out t x s).2.at_=s.at_/\(Bp n out t x s).2.out=s.out/\(Bp n out t x s).1.length<=n/\out.length<=(Bp n out t x s).1.length/\((Bp n out t x s).2.e=0->s.e=0/\out.length<(Bp n out t x s).1.length):=by
 unfold Bp
 split
 ·rename_i h;exact⟨rfl,rfl,ho,Nat.le_refl _,fun e=>absurd e h⟩
 ·rename_i h
  have hf:=eX s 11 BY
  split
  ·exact⟨hf.1,hf.2.1,ho,Nat.le_refl _,fun e=>absurd e hf.2.2⟩
  ·refine⟨rfl,rfl,?_,?_,fun e=>⟨IN,?_⟩⟩<;>simp<;>omega
def Kt{l:List Int}{n:Nat}{out:List Int}{s:ZS}(ha:s.at_<=8*b.length)(ho:out.length<=n):(Be (af b) l n out s).2.at_<=8*b.length/\s.at_<=(Be (af b) l n out s).2.at_/\(Be (af b) l n out s).2.out=s.out/\(Be (af b) l n out s).1.length<=n/\out.length<=(Be (af b) l n out s).1.length/\((Be (af b) l n out s).2.e=0->s.e=0/\out.length<(Be (af b) l n out s).1.length):=by
 have hs:=nW (b:=b) (l:=l) ha
 unfold Be
 simp only
 generalize dv (af b) l s=r at*
 have hn:=fun k=>cz (b:=b) (n:=k) hs.1
 split
 ·have h2:=hn 2
  have hr:=KU (x:=out.getLastD 0) (s:=(ar (af b) 2 r.2).2) ho (t:=(ar (af b) 2 r.2).1+3) AT
  have hf:=eX r.2 11 BY
  split
  ·rw[hf.1,hf.2.1]
   exact⟨hs.1,hs.2.1,hs.2.2.2.2.1,ho,Nat.le_refl _,fun e=>absurd e hf.2.2⟩
  ·refine⟨AT,AT,by rw[hr.2.1,h2.2.2.2.2.1];exact hs.2.2.2.2.1,hr.2.2.1,hr.2.2.2.1,fun e=>?_⟩
   have h5:=hr.2.2.2.2 e
   exact⟨(hs.2.2.2.2.2.1 (h2.2.2.2.2.2 h5.1).1).1,h5.2⟩
 grind [KU,ar,af]
def PD{l:List Int}{n:Nat}:∀(f:Nat)(out:List Int)(s:ZS),s.at_<=8*b.length->out.length<=n->n<f+out.length->(qZ (af b) l n f out s).2.at_<=8*b.length/\s.at_<=(qZ (af b) l n f out s).2.at_/\(qZ (af b) l n f out s).2.out=s.out/\((qZ (af b) l n f out s).2.e=0->s.e=0/\(qZ (af b) l n f out s).1.length=n)
 |0,out,s,_,h1,h2=>by omega
 |f+1,out,s,ha,h1,h2=>by
  rw[qZ]
  split
  ·rename_i h
   exact⟨ha,Nat.le_refl _,rfl,fun e=>⟨e,by rcases h with h|h;exact h;exact absurd e h⟩⟩
  ·have hT:=Kt (l:=l) ha h1
   by_cases he:(Be (af b) l n out s).2.e=0
   ·have h5:=hT.2.2.2.2.2 he
    have ih:=PD (l:=l) f (Be (af b) l n out s).1 (Be (af b) l n out s).2 hT.1 hT.2.2.2.1 AT
    exact⟨ih.1,AT,by rw[ih.2.2.1];exact hT.2.2.1,fun e=>⟨h5.1,(ih.2.2.2 e).2⟩⟩
   ·have e1:qZ (af b) l n f (Be (af b) l n out s).1 (Be (af b) l n out s).2=Be (af b) l n out s:=by
     cases f with
     |zero=>rfl
     |succ f=>rw[qZ,if_pos (.inr he)]
    rw[e1]
    exact⟨hT.1,hT.2.1,hT.2.2.1,fun e=>absurd e he⟩
def Jn{n:Nat}{out:List Int}{t x:Int}(h1:t<=(n:Int) -out.length)(hn:n<100000):
 iter (fun((pz,t26):(List Int)×Int)=>
  if decide (t26<t)then
   aI ((pz.length+[x].length)*8<=room)<|
   some (.inl (pz++[x],ao (t26+1)))
  else
   some (.inr pz)) (out,0)=some (out++List.replicate t.toNat x):=by
 have bP:room=140737488355328:=rfl
 refine qx t.toNat (fun k=>out++List.replicate k x) B_ AT (fun k hk=>?_) ?_
 ·simp only
  rw[if_pos By,aP By,List.replicate_succ',List.append_assoc]
 ·simp only
  rw[if_neg By]
theorem Cf{out:List Int}(h:out≠[]):ix out ((out.length -1:Nat):Int)=out.getLastD 0:=by
 have hl:0<out.length:=List.length_pos_iff.2 h
 rw[eK AT,List.getLastD_eq_getLast?,List.getLast?_eq_getElem?,List.getElem?_eq_getElem AT];rfl
def afq(hb:b.length<576460752303423488){l:List Int}(hl:va l)(K:Nat){n:Nat}(hn:n<1000){s:ZS}(ha:s.at_<=8*b.length):∃o,eZ (qf b most s) ⟨K,l⟩ (n:Int)=some (o,qf b most (qZ (af b) l n (n+1) [] s).2)/\((qZ (af b) l n (n+1) [] s).2.e=0->o=(qZ (af b) l n (n+1) [] s).1)/\o.length<=2000:=by
 generalize hR:qZ (af b) l n (n+1) [] s=R
 suffices h:∃z:List Int×an,eZ (qf b most s) ⟨K,l⟩ (n:Int)=some z/\(z.2=qf b most R.2/\(R.2.e=0->z.1=R.1)/\z.1.length<=2000) by
  obtain⟨⟨o,S⟩,h1,h2,h3⟩:=h
  simp only at h2 h3
  subst h2
  exact⟨o,h1,h3⟩
 unfold eZ
 refine cF (fun(z:List Int×an)=>∃(f:Nat)(out:List Int)(t:ZS),z.2=qf b most t/\t.at_<=8*b.length/\out.length<=n/\n<f+out.length/\qZ (af b) l n f out t=R/\(t.e=0->z.1=out)/\z.1.length<=2000) (fun z:List Int×an=>if z.2.bq.e_=0 then n -z.1.length+1 else 0) (fun z:List Int×an=>z.2=qf b most R.2/\(R.2.e=0->z.1=R.1)/\z.1.length<=2000) ⟨n+1,[],s,rfl,ha,Nat.zero_le _,B_,hR,fun _=>rfl,B_⟩ (by simp only;split<;>simp<;>omega) ?_
 rintro⟨o,S⟩ ⟨f,out,t,rfl,hta,ho,hf,hz,Pd,hol⟩
 simp only at Pd hol⊢
 obtain⟨f,rfl⟩:∃g,f=g+1:=⟨f -1,AT⟩
 by_cases he:t.e=0
 ·have:=Pd he;subst this
  by_cases AG:o.length=n
  ·rw[qZ,if_pos (.inl AG)]at hz
   subst hz
   rw[if_pos (by simp[AG])]
   exact⟨_,rfl,rfl,fun _=>rfl,hol⟩
  ·rw[qZ,if_neg (by rintro(h|h);exact AG h;exact h he)]at hz
   rw[if_neg Xb5]
   have hT:=Kt (l:=l) hta ho
   have hs:=nW (b:=b) (l:=l) hta
   refine BU (fun z=>z=((dv (af b) l t).1,AZ b (dv (af b) l t).2)) ⟨_,XG hb hl K hta,rfl⟩ ?_
   rintro _ rfl
   have hnn:=fun k=>cz (b:=b) (n:=k) hs.1
   have hN:=fun(k:Nat)(h:k<=31)=>KF (b:=b) hb h hs.1
   have IB:∀(w:ZS)(o2:List Int),w.e≠0->∀g,qZ (af b) l n g o2 w=(o2,w):=fun w o2 hw g=>by
    cases g with
    |zero=>rfl
    |succ g=>rw[qZ,if_pos (.inr hw)]
   have go:∀(x tm:Int)(u:ZS),1<=tm->tm<300->u.at_<=8*b.length->u.out=t.out->Bp n o tm x u=Be (af b) l n o t->
    ∃z,(if decide (tm>ao ((n:Int) -(o.length:Int)))then
     aL (aA (qf b most u).bq 11) fun r20=>
     some (.inl (o,(an.mk r20 (qf b most u).g9 (qf b most u).fW)))
    else
     jn (
      iter (fun((pz,t26):(List Int)×Int)=>
       if decide (t26<tm)then
        aI ((pz.length+[x].length)*8<=room)<|
        some (.inl (pz++[x],ao (t26+1)))
       else
        some (.inr pz)) (o,0)) fun(oJ:(List Int))=>
     some (.inl (oJ,qf b most u)):Option ((List Int×an)⊕(List Int×an)))=some z/\(match z with
      |.inl z=>(∃(f:Nat)(out:List Int)(t:ZS),z.2=qf b most t/\t.at_<=8*b.length/\out.length<=n/\n<f+out.length/\qZ (af b) l n f out t=R/\(t.e=0->z.1=out)/\z.1.length<=2000)/\(if z.2.bq.e_=0 then n -z.1.length+1 else 0)<n -o.length+1
      |.inr z=>z.2=qf b most R.2/\(R.2.e=0->z.1=R.1)/\z.1.length<=2000):=by
    intro x tm u h1 h2 hua huo hru
    have hr:=KU (x:=x) (s:=u) ho h1
    rw[ak AT AT]
    rw[<-hru]at hz hT
    by_cases hue:u.e=0
    ·unfold Bp at hz hr hT
     rw[if_neg (c:=u.e≠0) (by simp[hue])]at hz hr hT
     by_cases htm:tm>(n:Int) -(o.length:Int)
     ·rw[if_pos htm]at hz hr hT
      rw[if_pos Xb6]
      refine⟨_,ah (qL u 11) rfl,⟨n+1,o,u.fail 11,?_,hT.1,ho,AT,?_,fun _=>rfl,hol⟩,?_⟩
      ·have:=(eX u 11 BY).2.1
       show an.mk (AZ b (u.fail 11)) u.out most=_
       rw[<-this]
      ·have hfe:=(eX u 11 BY).2.2
       rw[IB _ _ hfe]at hz⊢
       exact hz
      grind
     ·rw[if_neg htm]at hz hr hT
      rw[if_neg Xb6]
      have hle:(o++List.replicate tm.toNat x).length=o.length+tm.toNat:=B_
      refine⟨_,bQ (Jn (n:=n) AT AT) rfl,⟨f,o++List.replicate tm.toNat x,u,rfl,hua,Xb7,Xb7,hz,fun _=>rfl,Xb7⟩,?_⟩
      simp only
      rw[if_pos hue,hle];omega
    ·unfold Bp at hz hr hT
     rw[if_pos hue]at hz hr hT
     rw[IB _ _ hue]at hz
     by_cases htm:tm>(n:Int) -(o.length:Int)
     ·rw[if_pos Xb6]
      refine⟨_,ah (qL u 11) rfl,⟨n+1,o,u,?_,hua,ho,AT,by rw[IB _ _ hue];exact hz,fun h=>absurd h hue,hol⟩,?_⟩
      ·show an.mk (AZ b (u.fail 11)) u.out most=_
       unfold ZS.fail
       rw[if_neg hue]
      ·simp only
       have:(u.fail 11).e≠0:=(eX u 11 BY).2.2
       rw[if_neg this];omega
     ·rw[if_neg Xb6]
      have hle:(o++List.replicate tm.toNat x).length=o.length+tm.toNat:=B_
      refine⟨_,bQ (Jn (n:=n) AT AT) rfl,⟨n+1,o,u,rfl,hua,ho,AT,by rw[IB _ _ hue];exact hz,fun h=>absurd h hue,Xb7⟩,?_⟩
      simp only
      rw[if_neg hue];omega
   have hl:Be (af b) l n o t=(if(dv (af b) l t).1=16 then(if o=[]then(o,(dv (af b) l t).2.fail 11)else Bp n o ((ar (af b) 2 (dv (af b) l t).2).1+3) (o.getLastD 0) (ar (af b) 2 (dv (af b) l t).2).2)
    else if(dv (af b) l t).1=17 then Bp n o ((ar (af b) 3 (dv (af b) l t).2).1+3) 0 (ar (af b) 3 (dv (af b) l t).2).2
    else if(dv (af b) l t).1=18 then Bp n o ((ar (af b) 7 (dv (af b) l t).2).1+11) 0 (ar (af b) 7 (dv (af b) l t).2).2
    else Bp n o 1 (dv (af b) l t).1 (dv (af b) l t).2):=rfl
   have hto:t.out=(dv (af b) l t).2.out:=hs.2.2.2.2.1.symm
   clear hR
   rw[if_pos he]
   simp only[hto]
   generalize dv (af b) l t=r at*
   have p2:(2:Int)^2=4:=BY
   have p3:(2:Int)^3=8:=BY
   have p7:(2:Int)^7=128:=BY
   by_cases h16:r.1=16
   ·rw[if_pos h16]at hl
    rw[h16]
    rw[if_pos W_]
    by_cases ho0:o=[]
    ·subst ho0
     rw[if_pos rfl]at hl
     rw[if_pos W_]
     refine gy (fun z=>z=.inr (qf b most (r.2.fail 11))) ⟨_,ah (qL r.2 11) (by rw[<-(eX r.2 11 BY).2.1]),rfl⟩ ?_
     rintro _ rfl
     rw[hl]at hz
     have hfe:=(eX r.2 11 BY)
     refine⟨_,rfl,⟨n+1,[],r.2.fail 11,rfl,by rw[hfe.1];exact hs.1,Nat.zero_le _,B_,by rw[IB _ _ hfe.2.2]at hz⊢;exact hz,fun _=>rfl,hol⟩,?_⟩
     simp only
     rw[if_neg hfe.2.2];omega
    ·rw[if_neg ho0]at hl
     have Sk:0<o.length:=List.length_pos_iff.2 ho0
     rw[if_neg (by simp;exact ho0)]
     rw[ak (n:=(o.length:Int) -1) AT AT,aP AT]
     have h2:=hnn 2
     rw[p2]at h2
     refine gy (fun z=>z=.inl (o.getLastD 0,(ar (af b) 2 r.2).1+3,qf b most (ar (af b) 2 r.2).2)) ⟨_,ah (hN 2 BY) ?_,rfl⟩ ?_
     ·rw[show((o.length:Int) -1)=((o.length -1:Nat):Int) by omega,Cf ho0]
      simp only
      rw[ak AT AT,<-h2.2.2.2.2.1]
     ·rintro _ rfl
      obtain⟨z,hz1,hz2⟩:=go _ _ _ AT AT h2.1 Xf5 hl.symm
      exact⟨z,hz1,o_⟩
   ·rw[if_neg h16]at hl
    rw[if_neg (by simpa using h16)]
    by_cases h17:r.1=17
    ·rw[if_pos h17]at hl
     rw[if_pos Xb8]
     have h2:=hnn 3
     rw[p3]at h2
     refine gy (fun z=>z=.inl (0,(ar (af b) 3 r.2).1+3,qf b most (ar (af b) 3 r.2).2)) ⟨_,ah (hN 3 BY) ?_,rfl⟩ ?_
     ·simp only
      rw[ak AT AT,<-h2.2.2.2.2.1]
     ·rintro _ rfl
      obtain⟨z,hz1,hz2⟩:=go _ _ _ AT AT h2.1 Xf5 hl.symm
      exact⟨z,hz1,o_⟩
    ·rw[if_neg h17]at hl
     rw[if_neg Xb8]
     by_cases h18:r.1=18
     ·rw[if_pos h18]at hl
      rw[if_pos Xf6]
      have h2:=hnn 7
      rw[p7]at h2
      refine gy (fun z=>z=.inl (0,(ar (af b) 7 r.2).1+11,qf b most (ar (af b) 7 r.2).2)) ⟨_,ah (hN 7 BY) ?_,rfl⟩ ?_
      ·simp only
       rw[ak AT AT,<-h2.2.2.2.2.1]
      ·rintro _ rfl
       obtain⟨z,hz1,hz2⟩:=go _ _ _ AT AT h2.1 Xf5 hl.symm
       exact⟨z,hz1,o_⟩
     ·rw[if_neg h18]at hl
      rw[if_neg Xf6]
      refine gy (fun z=>z=.inl (r.1,1,qf b most r.2)) ⟨_,rfl,rfl⟩ ?_
      rintro _ rfl
      obtain⟨z,hz1,hz2⟩:=go _ _ _ AT AT hs.1 hto.symm hl.symm
      exact⟨z,hz1,o_⟩
 ·rw[qZ,if_pos (.inr he)]at hz
  subst hz
  rw[if_pos I_]
  exact⟨_,rfl,rfl,fun h=>absurd h he,hol⟩
theorem xN{l:List Int}{n:Nat}{w:ZS}(hw:w.e≠0)(o2:List Int)(g:Nat):qZ (af b) l n g o2 w=(o2,w):=by
 cases g with
 |zero=>rfl
 |succ g=>rw[qZ,if_pos (.inr hw)]
def zl{n:Nat}{out:List Int}{t x:Int}(u:ZS)(h1:u.e=0->t<=(n:Int) -out.length)(hn:n<100000):
 iter (fun((pA,j45):(List Int)×Int)=>
  if(decide (j45<t))&&(u.e==0)then
   aI ((pA.length+[x].length)*8<=room)<|
   some (.inl (pA++[x],ao (j45+1)))
  else
   some (.inr pA)) (out,0)=some (if u.e=0 then out++List.replicate t.toNat x else out):=by
 have bP:room=140737488355328:=rfl
 by_cases he:u.e=0
 ·have h1:=h1 he
  rw[if_pos he]
  refine qx t.toNat (fun k=>out++List.replicate k x) B_ AT (fun k hk=>?_) ?_
  ·simp only
   rw[if_pos Xb5,aP By,List.replicate_succ',List.append_assoc]
  ·simp only
   rw[if_neg By]
 ·rw[if_neg he]
  refine fb 0 (fun _=>(out,0)) rfl BY (fun k hk=>absurd hk (Nat.not_lt_zero _)) ?_
  simp only
  rw[if_neg I_]
def afH(hb:b.length<576460752303423488){l:List Int}(hl:va l){cd:List UInt32}(hc:DR l cd){n:Nat}(hn:n<1000){s:ZS}(ha:s.at_<=8*b.length):eW (jX b most s) l cd (n:Int)=some ((qZ (af b) l n (n+1) [] s).1,jX b most (qZ (af b) l n (n+1) [] s).2):=by
 generalize hR:qZ (af b) l n (n+1) [] s=R
 suffices h:∃z:List Int×aJ,eW (jX b most s) l cd (n:Int)=some z/\z=(R.1,jX b most R.2) by obtain⟨z,h1,rfl⟩:=h;exact h1
 unfold eW
 refine gy (fun z=>ir (fun x=>x) (fun x=>x) z=(R.1,jX b most R.2)) (lW (fun z=>ir (fun x=>x) (fun x=>x) z=(R.1,jX b most R.2))
  (cF (fun(z:List Int×Int×aJ)=>∃(f k:Nat)(t:ZS),z.2.1=(k:Int)/\(t.e=0->k<=z.1.length)/\z.2.2=jX b most t/\t.at_<=8*b.length/\z.1.length<=n/\n<f+z.1.length/\qZ (af b) l n f z.1 t=R) (fun z:List Int×Int×aJ=>if z.2.2.E=0 then n -z.1.length+1 else 0) _ ⟨n+1,0,s,rfl,fun _=>Nat.zero_le _,rfl,ha,Nat.zero_le _,B_,hR⟩ (by simp only;split<;>simp<;>omega) ?_) ?_) ?_
 ·rintro⟨o,k,S⟩ ⟨f,k,t,rfl,hk,rfl,hta,ho,hf,hz⟩
  simp only at hk ho hf hz⊢
  obtain⟨f,rfl⟩:∃g,f=g+1:=⟨f -1,AT⟩
  by_cases he:t.e=0
  ·have hk:=hk he
   by_cases AG:o.length=n
   ·rw[qZ,if_pos (.inl AG)]at hz
    subst hz
    rw[if_neg By]
    exact⟨_,rfl,rfl⟩
   ·rw[qZ,if_neg (by rintro(h|h);exact AG h;exact h he)]at hz
    rw[if_pos Xb5]
    have hT:=Kt (l:=l) hta ho
    have hs:=nW (b:=b) (l:=l) hta
    refine gy (fun z=>match z with
     |.inl z=>∃t',z.2=jX b most t'/\Be (af b) l n o t=(z.1,t')
     |.inr z=>∃t',z.2=jX b most t'/\t'.e≠0/\Be (af b) l n o t=(z.1,t')) ?_ ?_
    ·refine BU (fun z=>z=((dv (af b) l t).1,jX b most (dv (af b) l t).2)) ⟨_,Yg hb hl hc hta,rfl⟩ ?_
     rintro _ rfl
     have hnn:=fun k=>cz (b:=b) (n:=k) hs.1
     have hN:=fun(k:Nat)(h:k<=31)=>CX (b:=b) (most:=most) hb h hs.1
     have hlT:Be (af b) l n o t=(if(dv (af b) l t).1=16 then(if o=[]then(o,(dv (af b) l t).2.fail 11)else Bp n o ((ar (af b) 2 (dv (af b) l t).2).1+3) (o.getLastD 0) (ar (af b) 2 (dv (af b) l t).2).2)
      else if(dv (af b) l t).1=17 then Bp n o ((ar (af b) 3 (dv (af b) l t).2).1+3) 0 (ar (af b) 3 (dv (af b) l t).2).2
      else if(dv (af b) l t).1=18 then Bp n o ((ar (af b) 7 (dv (af b) l t).2).1+11) 0 (ar (af b) 7 (dv (af b) l t).2).2
      else Bp n o 1 (dv (af b) l t).1 (dv (af b) l t).2):=rfl
     simp only
     generalize dv (af b) l t=r at*
     have p2:(2:Int)^2=4:=BY
     have p3:(2:Int)^3=8:=BY
     have p7:(2:Int)^7=128:=BY
     have go:∀(x tm:Int)(u:ZS),1<=tm->tm<300->Bp n o tm x u=Be (af b) l n o t->
      ∃z,(jn (
       if(u.e==0)&&(decide (tm>ao ((n:Int) -(o.length:Int))))then
        aL (aO (jX b most u) 11) fun r43=>
        some r43
       else
        some (jX b most u)) fun(o42:aJ)=>
      aL (
       iter (fun((pA,j45):(List Int)×Int)=>
        if(decide (j45<tm))&&(o42.E==0)then
         aI ((pA.length+[x].length)*8<=room)<|
         some (.inl (pA++[x],ao (j45+1)))
        else
         some (.inr pA)) (o,0)) fun(P7:(List Int))=>
      some (.inl (P7,o42)):Option ((List Int×aJ)⊕(List Int×aJ)))=some z/\(match z with
       |.inl z=>∃t',z.2=jX b most t'/\Be (af b) l n o t=(z.1,t')
       |.inr z=>∃t',z.2=jX b most t'/\t'.e≠0/\Be (af b) l n o t=(z.1,t')):=by
      intro x tm u h1 h2 hru
      rw[ak AT AT,<-hru]
      unfold Bp
      by_cases hue:u.e=0
      ·rw[if_neg (c:=u.e≠0) (by simp[hue])]
       by_cases htm:tm>(n:Int) -(o.length:Int)
       ·rw[if_pos htm,if_pos (by simp[hue];omega)]
        have hfe:=(eX u 11 BY).2.2
        refine⟨_,bQ (ah (qM u 11) rfl) (ah (zl (n:=n) (u.fail 11) (fun h=>absurd h hfe) AT) rfl),u.fail 11,rfl,?_⟩
        rw[if_neg hfe]
       ·rw[if_neg htm,if_neg By]
        refine⟨_,bQ rfl (ah (zl (n:=n) u (fun _=>AT) AT) rfl),u,rfl,?_⟩
        rw[if_pos hue]
      ·rw[if_pos hue,if_neg (by simp[hue])]
       refine⟨_,bQ rfl (ah (zl (n:=n) u (fun h=>absurd h hue) AT) rfl),u,rfl,?_⟩
       rw[if_neg hue]
     by_cases h16:r.1=16
     ·rw[if_pos h16]at hlT
      rw[h16,if_pos W_]
      by_cases ho0:o=[]
      ·subst ho0
       rw[if_pos rfl]at hlT
       rw[if_pos W_]
       refine gy (fun z=>z=.inr ([],jX b most (r.2.fail 11))) ⟨_,ah (qM r.2 11) rfl,rfl⟩ ?_
       rintro _ rfl
       exact⟨_,rfl,_,rfl,(eX r.2 11 BY).2.2,hlT⟩
      ·rw[if_neg ho0]at hlT
       have Sk:0<o.length:=List.length_pos_iff.2 ho0
       rw[if_neg (by simp;exact ho0)]
       have h2:=hnn 2
       rw[p2]at h2
       refine gy (fun z=>z=.inl (o.getLastD 0,(ar (af b) 2 r.2).1+3,jX b most (ar (af b) 2 r.2).2)) ⟨_,ah (hN 2 BY) ?_,rfl⟩ ?_
       ·simp only
        rw[ak (n:=(o.length:Int) -1) AT AT,aP AT,show((o.length:Int) -1)=((o.length -1:Nat):Int) by omega,Cf ho0,ak AT AT,Int.add_comm 3]
       ·rintro _ rfl
        obtain⟨z,hz1,hz2⟩:=go _ _ _ AT AT hlT.symm
        exact⟨z,hz1,o_⟩
     ·rw[if_neg h16]at hlT
      rw[if_neg (by simpa using h16)]
      by_cases h17:r.1=17
      ·rw[if_pos h17]at hlT
       rw[if_pos Xb8]
       have h2:=hnn 3
       rw[p3]at h2
       refine gy (fun z=>z=.inl (0,(ar (af b) 3 r.2).1+3,jX b most (ar (af b) 3 r.2).2)) ⟨_,ah (hN 3 BY) ?_,rfl⟩ ?_
       ·simp only
        rw[ak AT AT,Int.add_comm 3]
       ·rintro _ rfl
        obtain⟨z,hz1,hz2⟩:=go _ _ _ AT AT hlT.symm
        exact⟨z,hz1,o_⟩
      ·rw[if_neg h17]at hlT
       rw[if_neg Xb8]
       by_cases h18:r.1=18
       ·rw[if_pos h18]at hlT
        rw[if_pos Xf6]
        have h2:=hnn 7
        rw[p7]at h2
        refine gy (fun z=>z=.inl (0,(ar (af b) 7 r.2).1+11,jX b most (ar (af b) 7 r.2).2)) ⟨_,ah (hN 7 BY) ?_,rfl⟩ ?_
        ·simp only
         rw[ak AT AT,Int.add_comm 11]
        ·rintro _ rfl
         obtain⟨z,hz1,hz2⟩:=go _ _ _ AT AT hlT.symm
         exact⟨z,hz1,o_⟩
       simp_all
    ·rintro(⟨o',S'⟩|⟨o',S'⟩) hzz
     ·obtain⟨t',h1,hT'⟩:=hzz
      simp only at h1 hT'
      subst h1
      rw[hT']at hz hT
      simp only at hT
      refine⟨_,rfl,⟨if t'.e=0 then f else n+1,k+1,t',?_,fun e=>?_,rfl,hT.1,hT.2.2.2.1,?_,?_⟩,?_⟩
      ·show ao ((k:Int)+1)=_
       rw[ak AT AT];rfl
      ·have:=hT.2.2.2.2.2 e;simp only;omega
      ·simp only
       split
       ·rename_i e;have:=hT.2.2.2.2.2 e;omega
       ·omega
      ·split
       ·exact hz
       ·rename_i e
        rw[xN e]at hz⊢
        exact hz
      grind
     ·obtain⟨t',h1,h2,hT'⟩:=hzz
      simp only at h1 hT'
      subst h1
      rw[hT',xN h2]at hz
      exact⟨_,rfl,by rw[<-hz];rfl⟩
  ·rw[qZ,if_pos (.inr he)]at hz
   subst hz
   rw[if_neg I_]
   exact⟨_,rfl,rfl⟩
 ·rintro(z|z) hz
  ·exact⟨_,rfl,hz⟩
  ·exact⟨_,rfl,hz⟩
 ·rintro(z|z) hz
  ·exact⟨_,rfl,hz⟩
  ·exact⟨_,rfl,hz⟩
end
def pb:List UInt8->Nat->Nat->Nat×Nat
 |[],a,b=>(a,b)
 |x::l,a,b=>pb l ((a+x.toNat)% 65521) ((b+(a+x.toNat)% 65521)% 65521)
theorem wX:∀(l m:List UInt8)(a b:Nat),pb (l++m) a b=pb m (pb l a b).1 (pb l a b).2
 |[],_,_,_=>rfl
 |x::l,m,a,b=>by rw[List.cons_append,pb,pb,wX l m]
theorem Bv:∀(l:List UInt8)(a b:Nat),a<65521->b<65521->(pb l a b).1<65521/\(pb l a b).2<65521
 |[],_,_,h1,h2=>⟨h1,h2⟩
 |x::l,a,b,_,_=>by rw[pb];exact Bv l _ _ (Nat.mod_lt _ BY) (Nat.mod_lt _ BY)
def Em(l:List UInt8):UInt32:=cf (((65536*(pb l 1 0).2+(pb l 1 0).1:Nat):Nat):Int)
def afJ(l:List UInt8)(hl:l.length<576460752303423488):qN l=some (Em l):=by
 have hlt:=fun k=>Bv (l.take k) 1 0 BY BY
 unfold qN
 refine bQ (a:=(((pb l 1 0).1:Int),((pb l 1 0).2:Int))) (iter_eq (fun(s:Int×Int×Int)=>∃k:Nat,k<=l.length/\s=(((pb (l.take k) 1 0).1:Int),((pb (l.take k) 1 0).2:Int),(k:Int))) (fun s=>(l.length -s.2.2).toNat) ⟨0,Nat.zero_le _,rfl⟩ By ?_) ?_
 ·rintro _ ⟨k,hk,rfl⟩
  have h:=hlt k
  by_cases hlt:k<l.length
  ·have hix:ix l (k:Int)=l[k]:=eK hlt
   have hc:=(l[k]).toNat_lt
   refine .inl ⟨_,?_,⟨k+1,hlt,rfl⟩,Θ⟩
   rw[List.take_succ_eq_append_getElem hlt,wX]
   generalize(pb (l.take k) 1 0).1=a at*
   generalize(pb (l.take k) 1 0).2=b at*
   rw[show pb [l[k]] a b=((a+l[k].toNat)% 65521,(b+(a+l[k].toNat)% 65521)% 65521) from rfl]
   simp only[hix]
   rw[if_pos By,aP AT]
   grind [ak,Int.tmod,Int.tmod_eq_emod_of_nonneg]
  grind
 grind [Bv,Em,pb,ak]
structure YI(a0 b0 k A B:Nat)(l:List UInt8):Prop where
 hA:A<=a0+255*k
 hB:2*B<=2*b0+2*(k*a0)+255*(k*(k+1))
 eA:A % 65521=(pb l a0 b0).1
 eB:B % 65521=(pb l a0 b0).2
theorem YI.step{a0 b0 k A B:Nat}{l:List UInt8}(h:YI a0 b0 k A B l)(x:UInt8):YI a0 b0 (k+1) (A+x.toNat) (B+(A+x.toNat)) (l++[x]):=by
 have hx:=x.toNat_lt
 have h1:=h.hA
 have h2:=h.hB
 have e1:(k+1)*a0=k*a0+a0:=Nat.succ_mul k a0
 have e2:(k+1)*(k+1+1)=k*(k+1)+2*(k+1):=by rw[Nat.mul_comm,show k+1+1=k+2 from rfl,Nat.add_mul,Nat.mul_comm k]
 refine⟨AT,?_,?_,?_⟩
 ·rw[e1,e2]
  generalize k*a0=P at*
  generalize k*(k+1)=Q at*
  omega
 ·rw[wX]
  show _=((pb l a0 b0).1+x.toNat)% 65521
  rw[<-h.eA];omega
 ·rw[wX]
  show _=((pb l a0 b0).2+((pb l a0 b0).1+x.toNat)% 65521)% 65521
  rw[<-h.eA,<-h.eB];omega
theorem YI.lt{a0 b0 k A B:Nat}{l:List UInt8}(h:YI a0 b0 k A B l)(hk:k<=5552)(ha:a0<65521)(hb:b0<65521):A<4294967296/\B<4294967296:=by
 have h1:=h.hA
 have h2:=h.hB
 have e1:k*a0<=5552*65520:=Nat.mul_le_mul hk AT
 have e2:k*(k+1)<=5552*5553:=Nat.mul_le_mul hk AT
 generalize k*a0=P at*
 generalize k*(k+1)=Q at*
 omega
theorem YB(x:UInt8):((cf (x.toNat:Int)).toNat:Int)=(x.toNat:Int):=by
 have:=x.toNat_lt
 rw[dh _ AT]
def XD(p:List UInt8){n:Nat}(hn:n<=5552)(hp:p.length=n){a b:UInt32}(ha:a.toNat<65521)(hb:b.toNat<65521)(N:Int):∃z:UInt32×UInt32×Int,iter (fun((a15,b16,n17,t18,t19,t20):UInt32×UInt32×Int×(List UInt8)×Int×Int)=>
 if decide (t20<t19)then
  aI (0<=t20/\t20<t18.length)<|
  some (.inl (cf ((a15.toNat:Int)+((cf (((ix t18 t20).toNat:Int))).toNat:Int)),cf ((b16.toNat:Int)+((cf ((a15.toNat:Int)+((cf (((ix t18 t20).toNat:Int))).toNat:Int))).toNat:Int)),n17,t18,t19,ao (t20+1)))
 else
  some (.inr (a15,b16,n17))) (a,b,N,p,(p.length:Int),0)=some z/\(z.2.2=N/\z.1.toNat % 65521=(pb p a.toNat b.toNat).1/\z.2.1.toNat % 65521=(pb p a.toNat b.toNat).2):=by
 refine cF (fun(s:UInt32×UInt32×Int×(List UInt8)×Int×Int)=>∃(k:Nat)(A B:UInt32),k<=n/\s=(A,B,N,p,(p.length:Int),(k:Int))/\YI a.toNat b.toNat k A.toNat B.toNat (p.take k)) (fun s=>(n -s.2.2.2.2.2).toNat) _ ⟨0,a,b,Nat.zero_le _,rfl,⟨AT,AT,Nat.mod_eq_of_lt ha,Nat.mod_eq_of_lt hb⟩⟩ By ?_
 rintro _ ⟨k,A,B,hk,rfl,h⟩
 simp only
 by_cases hlt:k<n
 ·have MX:k<p.length:=AT
  have hix:ix p (k:Int)=p[k]:=eK MX
  have h2:=h.step p[k]
  rw[<-List.take_succ_eq_append_getElem MX]at h2
  have hl:=h2.lt AT ha hb
  rw[if_pos By,aP AT,hix,YB,ak (n:=(k:Int)+1) AT AT]
  have e1:(cf ((A.toNat:Int)+(p[k].toNat:Int))).toNat=A.toNat+p[k].toNat:=by rw[show(A.toNat:Int)+(p[k].toNat:Int)=((A.toNat+p[k].toNat:Nat):Int) by omega,dh _ AT]
  have e2:(cf ((B.toNat:Int)+((cf ((A.toNat:Int)+(p[k].toNat:Int))).toNat:Int))).toNat=B.toNat+(A.toNat+p[k].toNat):=by rw[e1,show(B.toNat:Int)+((A.toNat+p[k].toNat:Nat):Int)=((B.toNat+(A.toNat+p[k].toNat):Nat):Int) by omega,dh _ AT]
  grind
 ·rw[List.take_of_length_le AT]at h
  rw[if_neg By]
  exact⟨_,rfl,rfl,h.eA,h.eB⟩
theorem SV(x:UInt32):(cf (Int.tmod (x.toNat:Int) 65521)).toNat=x.toNat % 65521:=by
 have:=x.toNat_lt
 rw[Int.tmod_eq_emod_of_nonneg AT,show(x.toNat:Int)% 65521=((x.toNat % 65521:Nat):Int) by omega,dh _ AT]
def XC(l:List UInt8)(hl:l.length<576460752303423488):qi l=some (Em l):=by
 unfold qi
 have hz:=Bv l 1 0 BY BY
 refine ah (a:=eO.mk (cf ((((pb l 1 0).1+65520)% 65521:Nat):Int)) (cf ((pb l 1 0).2:Nat))) ?_ ?_
 ·suffices h:∃x,fD (eO.mk 0 0) l=some x/\x=eO.mk (cf ((((pb l 1 0).1+65520)% 65521:Nat):Int)) (cf ((pb l 1 0).2:Nat)) by
   obtain⟨x,h1,rfl⟩:=h;exact h1
  unfold fD
  refine zM (fun z=>z.1.toNat=(pb l 1 0).1/\z.2.toNat=(pb l 1 0).2) (cF (fun(s:(List UInt8)×UInt32×UInt32)=>∃k:Nat,k<=l.length/\s.1=l.drop k/\s.2.1.toNat=(pb (l.take k) 1 0).1/\s.2.2.toNat=(pb (l.take k) 1 0).2) (fun s=>s.1.length) _ ⟨0,Nat.zero_le _,rfl,rfl,rfl⟩ By ?_) ?_
  ·rintro⟨p,a,b⟩ ⟨k,hk,rfl,ha,hb⟩
   simp only at ha hb⊢
   have hlt:=Bv (l.take k) 1 0 BY BY
   by_cases hp:k<l.length
   ·have hpl:(l.drop k).length=l.length -k:=List.length_drop ..
    rw[if_pos By]
    have aaQ:part (l.drop k) 0 (min ((l.drop k).length:Int) 5552)=(l.drop k).take (min (l.length -k) 5552):=by
     unfold part
     rw[show(min ((l.drop k).length:Int) 5552 -0).toNat=min (l.length -k) 5552 by omega];rfl
    have hB:=XD ((l.drop k).take (min (l.length -k) 5552)) (n:=min (l.length -k) 5552) AT N_ (a:=a) (b:=b) AT AT (min ((l.drop k).length:Int) 5552)
    rw[ha,hb,<-wX,show l.take k++(l.drop k).take (min (l.length -k) 5552)=l.take (k+min (l.length -k) 5552) by rw[List.take_add]]at hB
    rw[aP AT,aaQ]
    refine zM _ hB ?_
    rintro⟨A,B,N⟩ ⟨rfl,h2,h3⟩
    simp only at h2 h3⊢
    rw[aP AT]
    refine⟨_,rfl,⟨k+min (l.length -k) 5552,AT,?_,by rw[SV];exact h2,by rw[SV];exact h3⟩,?_⟩
    ·unfold part
     simp only
     rw[List.take_of_length_le O_,List.drop_drop]
     congr 1;omega
    grind [part,List.take_of_length_le,List.length_drop]
   ·rw[if_neg By]
    rw[List.take_of_length_le AT]at ha hb
    exact⟨_,rfl,ha,hb⟩
  ·rintro⟨A,B⟩ ⟨h2,h3⟩
   simp only at h2 h3⊢
   refine⟨_,rfl,?_⟩
   have e1:(cf ((A.toNat:Int)+65521)).toNat=(pb l 1 0).1+65521:=by rw[h2,show(((pb l 1 0).1:Nat):Int)+65521=(((pb l 1 0).1+65521:Nat):Int) by omega,dh _ AT]
   have e2:(cf (((cf ((A.toNat:Int)+65521)).toNat:Int) -1)).toNat=(pb l 1 0).1+65520:=by rw[e1,show((((pb l 1 0).1+65521:Nat)):Int) -1=(((pb l 1 0).1+65520:Nat):Int) by omega,dh _ AT]
   grind [cf,Int.tmod,pb,UInt32.toNat_inj,SV,dh]
 ·unfold e7 Em
  rw[aB]
  generalize(pb l 1 0).1=a at*
  generalize(pb l 1 0).2=b at*
  have e1:(cf (Int.tmod ((cf (((cf ((((a+65520)% 65521:Nat)):Int)).toNat:Int)+1)).toNat:Int) 65521)).toNat=a:=by rw[SV,dh _ AT,show((((a+65520)% 65521:Nat)):Int)+1=(((a+65520)% 65521+1:Nat):Int) by omega,dh _ AT];omega
  have e2:(cf (lO .u32 ((cf (b:Int)).toNat:Int) 16)).toNat=65536*b:=by
   rw[dh _ AT]
   have:lO .u32 (b:Int) 16=((65536*b:Nat):Int):=by
    show(b:Int)*65536=_
    omega
   rw[this,dh _ AT]
  simp only[e1,e2]
  have e3:D1 .u32 ((65536*b:Nat):Int) (a:Int)=((65536*b+a:Nat):Int):=by
   unfold D1
   show(((BitVec.ofNat 32 (65536*b)|||BitVec.ofNat 32 a).toNat:Nat):Int)=_
   rw[BitVec.toNat_or,BitVec.toNat_ofNat,BitVec.toNat_ofNat,Nat.mod_eq_of_lt AT,Nat.mod_eq_of_lt AT]
   have:=Nat.two_pow_add_eq_or_of_lt (i:=16) (b:=a) AT b
   rw[<-show 65536*b+a=65536*b |||a from this]
  rw[e3]
def Rg(x:UInt32):List UInt8:=[UInt8.ofNat (x.toNat/16777216),UInt8.ofNat (x.toNat/65536),UInt8.ofNat (x.toNat/256),UInt8.ofNat x.toNat]
theorem zA(n:Nat):eR (n:Int)=UInt8.ofNat n:=by
 unfold eR
 rw[Aa _ _ rfl]
 have:(2^IntKind.u8.bits:Int)=256:=BY
 rw[this]
 refine UInt8.toNat_inj.1 ?_
 rw[UInt8.toNat_ofNat',UInt8.toNat_ofNat']
 omega
def Yp(x:UInt32)(k:Nat)(hk:k<32):(cf (kJ .u32 (x.toNat:Int) (k:Int))).toNat=x.toNat/2^k:=by
 have hx:=x.toNat_lt
 have:kJ .u32 (x.toNat:Int) (k:Int)=((x.toNat/2^k:Nat):Int):=by
  unfold kJ
  rw[Int.toNat_natCast,show min k IntKind.u32.bits=k from Nat.min_eq_left (by show k<=32;omega)]
  rw[show(2:Int)^k=((2^k:Nat):Int) by simp,Int.fdiv_eq_ediv_of_nonneg _ (Int.natCast_nonneg _)];rfl
 have hle:=Nat.div_le_self x.toNat (2^k)
 rw[this,dh _ AT]
def XE(x:UInt32):mX x=some (Rg x):=by
 unfold mX Rg
 have h24:=Yp x 24 BY
 have h16:=Yp x 16 BY
 have h8:=Yp x 8 BY
 simp only[Nat.reducePow]at h24 h16 h8
 rw[show((24:Nat):Int)=24 from rfl]at h24
 rw[show((16:Nat):Int)=16 from rfl]at h16
 rw[show((8:Nat):Int)=8 from rfl]at h8
 rw[h24,h16,h8,zA,zA,zA,zA]
def Wc(x:UInt32)(k:Nat)(hk:0<k):(cf (Int.tdiv (x.toNat:Int) (k:Int))).toNat=x.toNat/k:=by
 have hx:=x.toNat_lt
 have hle:=Nat.div_le_self x.toNat k
 rw[Int.tdiv_eq_ediv_of_nonneg AT,show(x.toNat:Int)/(k:Int)=((x.toNat/k:Nat):Int) from rfl,dh _ AT]
def Yc(x:UInt32):nn x=some (Rg x):=by
 have hx:=x.toNat_lt
 unfold nn Rg
 have h1:=Wc x 16777216 BY
 have h2:=Wc x 65536 BY
 have h3:=Wc x 256 BY
 rw[show((16777216:Nat):Int)=16777216 from rfl]at h1
 rw[show((65536:Nat):Int)=65536 from rfl]at h2
 rw[show((256:Nat):Int)=256 from rfl]at h3
 have hm:∀n:Nat,n<4294967296->eR ((cf (Int.tmod (n:Int) 256)).toNat:Int)=UInt8.ofNat n:=fun n hn=>by
  rw[Int.tmod_eq_emod_of_nonneg AT,show(n:Int)% 256=((n % 256:Nat):Int) by omega,dh _ AT,zA]
  refine UInt8.toNat_inj.1 ?_
  rw[UInt8.toNat_ofNat',UInt8.toNat_ofNat']
  omega
 rw[h1,h2,h3,zA,hm _ AT,hm _ AT,hm _ AT]
def Ke(b:List UInt8):Int:=match b with
 |c::d::_=>if c.toNat % 16=8/\c.toNat/16<=7/\d.toNat/32 % 2=0/\(256*c.toNat+d.toNat)% 31=0 then 0 else 11
 |_=>10
theorem WD(c d:UInt8):ao (D1 .i64 (ao (lO .i64 (ao (c.toNat:Int)) 8)) (ao (d.toNat:Int)))=((256*c.toNat+d.toNat:Nat):Int):=by
 have hc:=c.toNat_lt
 have hd:=d.toNat_lt
 generalize c.toNat=x at*
 generalize d.toNat=y at*
 rw[ak (n:=(x:Int)) AT AT,ak (n:=(y:Int)) AT AT]
 have:lO .i64 (x:Int) 8=((256*x:Nat):Int):=by
  show(x:Int)*256=_
  omega
 rw[this,ak (n:=((256*x:Nat):Int)) AT AT]
 have e3:D1 .i64 ((256*x:Nat):Int) (y:Int)=((256*x+y:Nat):Int):=by
  unfold D1
  show(((BitVec.ofNat 64 (256*x)|||BitVec.ofNat 64 y).toNat:Nat):Int)=_
  rw[BitVec.toNat_or,BitVec.toNat_ofNat,BitVec.toNat_ofNat,Nat.mod_eq_of_lt AT,Nat.mod_eq_of_lt AT]
  have:=Nat.two_pow_add_eq_or_of_lt (i:=8) (b:=y) AT x
  rw[<-show 256*x+y=256*x |||y from this]
 grind [ak]
def LA(p q r:Bool)(P Q R:Prop)[Decidable P][Decidable Q][Decidable R](n:Nat)(hp:p=decide (¬P))(hq:q=decide (¬Q))(hr:r=decide (¬R)):(if(((p||q)||r)||((Int.tmod (n:Int) 31)!=0))=true then some (11:Int)else some 0)=some (if P/\Q/\R/\n % 31=0 then 0 else 11):=by
 have:Int.tmod (n:Int) 31=((n % 31:Nat):Int):=Xe3
 rw[this]
 subst hp hq hr
 generalize n % 31=m
 cases m<;>by_cases hP:P<;>by_cases hQ:Q<;>by_cases hR:R<;>simp[hP,hQ,hR]<;>omega
def abP(b:List UInt8):oT b=some (Ke b):=by
 unfold oT
 match b with
 |[]=>rfl
 |[c]=>rfl
 |c::d::l=>
  have h0:ix (c::d::l) 0=c:=rfl
  have h1:ix (c::d::l) 1=d:=rfl
  have hp:=of_decide_eq_true (gr (fun c=>decide ((((eR (pR .u8 (c.toNat:Int) 15)).toNat:Int)!=8)=decide (¬c.toNat % 16=8))) V_ c)
  have hq:=of_decide_eq_true (gr (fun c=>decide (decide (((eR (kJ .u8 (c.toNat:Int) 4)).toNat:Int)>7)=decide (¬c.toNat/16<=7))) V_ c)
  have hr:=of_decide_eq_true (gr (fun d=>decide ((((eR (pR .u8 (d.toNat:Int) 32)).toNat:Int)!=0)=decide (¬d.toNat/32 % 2=0))) V_ d)
  rw[if_neg By,aP By,aP By,aP By,aP By,aP By,h0,h1,WD]
  exact LA _ _ _ _ _ _ _ hp hq hr
def acr(b:List UInt8):nq b=some (Ke b):=by
 unfold nq
 match b with
 |[]=>rfl
 |[c]=>rfl
 |c::d::l=>
  have hc:=c.toNat_lt
  have hd:=d.toNat_lt
  have h0:ix (c::d::l) 0=c:=rfl
  have h1:ix (c::d::l) 1=d:=rfl
  have hp:=of_decide_eq_true (gr (fun c=>decide ((((eR (Int.tmod (c.toNat:Int) 16)).toNat:Int)!=8)=decide (¬c.toNat % 16=8))) V_ c)
  have hq:=of_decide_eq_true (gr (fun c=>decide (decide (((eR (Int.tdiv (c.toNat:Int) 16)).toNat:Int)>7)=decide (¬c.toNat/16<=7))) V_ c)
  have hr:=of_decide_eq_true (gr (fun d=>decide ((((eR (Int.tmod ((eR (Int.tdiv (d.toNat:Int) 32)).toNat:Int) 2)).toNat:Int)!=0)=decide (¬d.toNat/32 % 2=0))) V_ d)
  have hw:ao ((ao (256*(ao (c.toNat:Int))))+(ao (d.toNat:Int)))=((256*c.toNat+d.toNat:Nat):Int):=by
   rw[ak (n:=(c.toNat:Int)) AT AT,ak (n:=(d.toNat:Int)) AT AT,ak (n:=256*(c.toNat:Int)) AT AT,ak AT AT]
   omega
  rw[if_neg By,aP By,aP By,aP By,aP By,aP By,h0,h1,hw]
  exact LA _ _ _ _ _ _ _ hp hq hr
def gW:List Int:=[16,17,18,0,8,7,9,6,10,5,11,4,12,3,13,2,14,1,15]
def lM:List Int:=(List.range 288).map fun k=>if k<144\/k>279 then 8 else if k<256 then 9 else 7
def lL:List Int:=List.replicate 30 5
def Bg(B:List Bool):List Int->List Int->ZS->List Int×ZS
 |[],of,s=>(of,s)
 |a::r,of,s=>Bg B r (vm of a (ar B 3 s).1) (ar B 3 s).2
def kp(B:List Bool)(s:ZS):Int×Int×Int×ZS:=
 let n:=ar B 5 s
 let m:=ar B 5 n.2
 let k:=ar B 4 m.2
 (n.1+257,m.1+1,k.1+4,if n.1+257>286\/m.1+1>30 then k.2.fail 11 else k.2)
def m4(B:List Bool)(s:ZS):List Int×ZS:=
 let h:=kp B s
 let o:=Bg B (gW.take h.2.2.1.toNat) (List.replicate 19 0) h.2.2.2
 qZ B o.1 (h.1+h.2.1).toNat ((h.1+h.2.1).toNat+1) [] (gh o.1 o.2)
def lV(B:List Bool)(s:ZS):List Int×List Int×ZS:=
 let l:=m4 B s
 let n:=(kp B s).1.toNat
 if l.2.e≠0 then([],[],l.2)else(l.1.take n,l.1.drop n,gh (l.1.drop n) (gh (l.1.take n) (if l.1.getD 256 0=0 then l.2.fail 11 else l.2)))
def Af(b:List UInt8)(most:Int)(s:ZS):ZS:=oY (af b) most (lV (af b) s).1 (lV (af b) s).2.1 (8*b.length+2) (lV (af b) s).2.2
def vW(b:List UInt8)(most:Int)(s:ZS):Bool×ZS:=
 let l:=ar (af b) 1 s
 let k:=ar (af b) 2 l.2
 let z:=if k.2.e≠0 then k.2 else if k.1=0 then wL (af b) most k.2 else if k.1=1 then oY (af b) most lM lL (8*b.length+2) k.2 else if k.1=2 then Af b most k.2 else k.2.fail 11
 (decide (l.1=1)||decide (z.e≠0),z)
def oC(b:List UInt8)(most:Int):Nat->ZS->ZS
 |0,s=>s
 |f+1,s=>if(vW b most s).1 then(vW b most s).2 else oC b most f (vW b most s).2
def jy(b:List UInt8)(most:Int):List UInt8×Int×Int:=
 if most<0\/most>16777216 then([],0,2)else
  let z:=oC b most (8*b.length+2) ⟨0,0,[]⟩
  if z.e≠0 then([],0,z.e)else(z.out,(((z.at_+7)/8:Nat):Int),0)
def jH(b:List UInt8)(most:Int):List UInt8×Int×Int:=
 if most<0\/most>16777216 then([],0,2)else if Ke b≠0 then([],0,Ke b)else
  let r:=jy (b.drop 2) most
  if r.2.2≠0 then([],0,r.2.2)else if(b.length:Int)<r.2.1+6 then([],0,10)else if(b.drop (r.2.1+2).toNat).take 4≠Rg (Em r.1)then([],0,12)else(r.1,r.2.1+6,0)
section
variable{b:List UInt8}{most:Int}
def OO:va lM/\va lL/\0<=yG lM/\0<=yG lL:=by
 have h1:0<=yG lM:=V_
 have h2:0<=yG lL:=V_
 grind [tu]
def GJ:∀(r of:List Int)(s:ZS),s.at_<=8*b.length->(Bg (af b) r of s).2.at_<=8*b.length/\s.at_<=(Bg (af b) r of s).2.at_/\(Bg (af b) r of s).2.out=s.out/\((Bg (af b) r of s).2.e=0->s.e=0)
 |[],_,_,h=>⟨h,Nat.le_refl _,rfl,fun h=>h⟩
 |a::r,of,s,h=>by
  have hn:=cz (b:=b) (n:=3) h
  have ih:=GJ r (vm of a (ar (af b) 3 s).1) (ar (af b) 3 s).2 hn.1
  rw[Bg]
  exact⟨ih.1,AT,by rw[ih.2.2.1,hn.2.2.2.2.1],fun e=>(hn.2.2.2.2.2 (ih.2.2.2 e)).1⟩
def Ge{s:ZS}(h:s.at_<=8*b.length):(kp (af b) s).2.2.2.at_<=8*b.length/\s.at_<=(kp (af b) s).2.2.2.at_/\(kp (af b) s).2.2.2.out=s.out/\257<=(kp (af b) s).1/\(kp (af b) s).1<=288/\1<=(kp (af b) s).2.1/\(kp (af b) s).2.1<=32/\4<=(kp (af b) s).2.2.1/\(kp (af b) s).2.2.1<=19/\((kp (af b) s).2.2.2.e=0->s.e=0):=by grind [cz,kp,eX,ar,af,absurd]
def Gf{s:ZS}(h:s.at_<=8*b.length):(m4 (af b) s).2.at_<=8*b.length/\s.at_<=(m4 (af b) s).2.at_/\(m4 (af b) s).2.out=s.out/\((m4 (af b) s).2.e=0->s.e=0/\((m4 (af b) s).1.length:Int)=(kp (af b) s).1+(kp (af b) s).2.1):=by
 have h1:=Ge (b:=b) h
 have h2:=GJ (b:=b) (gW.take (kp (af b) s).2.2.1.toNat) (List.replicate 19 0) _ h1.1
 have h3:=pn (Bg (af b) (gW.take (kp (af b) s).2.2.1.toNat) (List.replicate 19 0) (kp (af b) s).2.2.2).1 (Bg (af b) (gW.take (kp (af b) s).2.2.1.toNat) (List.replicate 19 0) (kp (af b) s).2.2.2).2
 have h4:=PD (b:=b) (l:=(Bg (af b) (gW.take (kp (af b) s).2.2.1.toNat) (List.replicate 19 0) (kp (af b) s).2.2.2).1) (n:=((kp (af b) s).1+(kp (af b) s).2.1).toNat) (((kp (af b) s).1+(kp (af b) s).2.1).toNat+1) [] _ (by rw[h3.1];exact h2.1) (Nat.zero_le _) B_
 grind [m4]
theorem Lr{s:ZS}(h:ZI b most s):ZI b most (lV (af b) s).2.2/\s.at_<=(lV (af b) s).2.2.at_/\((lV (af b) s).2.2.e=0->s.e=0/\0<=yG (lV (af b) s).1/\0<=yG (lV (af b) s).2.1):=by
 have h1:=Gf (b:=b) h.1
 unfold lV
 simp only
 split
 ·rename_i he
  exact⟨⟨h1.1,by rw[h1.2.2.1];exact h.2⟩,h1.2.1,fun e=>absurd e he⟩
 ·rename_i he
  have he:(m4 (af b) s).2.e=0:=E_
  have hf:=eX (m4 (af b) s).2 11 BY
  have hz:∀z:ZS,z=(if(m4 (af b) s).1.getD 256 0=0 then(m4 (af b) s).2.fail 11 else(m4 (af b) s).2)->z.at_=(m4 (af b) s).2.at_/\z.out=(m4 (af b) s).2.out:=by
   rintro z rfl
   split
   ·grind
   ·grind
  generalize hzz:(if(m4 (af b) s).1.getD 256 0=0 then(m4 (af b) s).2.fail 11 else(m4 (af b) s).2)=z at*
  have hz:=hz z rfl
  have c1:=pn ((m4 (af b) s).1.take (kp (af b) s).1.toNat) z
  have c2:=pn ((m4 (af b) s).1.drop (kp (af b) s).1.toNat) (gh ((m4 (af b) s).1.take (kp (af b) s).1.toNat) z)
  refine⟨⟨A_,by rw[c2.2.1,c1.2.1,hz.2,h1.2.2.1];exact h.2⟩,A_,fun e=>⟨(h1.2.2.2 he).1,(c1.2.2 (c2.2.2 e).1).2,(c2.2.2 e).2⟩⟩
def Mh:∀(k:Nat)(s:ZS),ZI b most s->ZI b most (zw (af b) most k s)
 |0,_,h=>h
 |k+1,s,h=>by
  rw[zw]
  split
  ·exact h
  ·have hn:=cz (b:=b) (n:=8) h.1
   exact Mh k _ (L3 ⟨hn.1,by rw[hn.2.2.2.2.1];exact h.2⟩)
theorem T4{s:ZS}(h:ZI b most s):ZI b most (wL (af b) most s):=by
 have hH:=Br (b:=b) h.1
 have h1:=cz (b:=b) (n:=16) (s:={s with at_:=(s.at_+7)/8*8}) A_
 have h2:=cz (b:=b) (n:=16) h1.1
 refine Mh _ _ ⟨hH.1,?_⟩
 have:(lP (af b) s).2.out=s.out:=by
  unfold lP
  simp only
  split
  ·grind [eX]
  ·grind
 rw[this];exact h.2
def FY{s:ZS}(h:ZI b most s):ZI b most (vW b most s).2/\s.at_<=(vW b most s).2.at_/\((vW b most s).1=false->(vW b most s).2.e=0/\s.e=0/\s.at_<(vW b most s).2.at_):=by
 have h1:=cz (b:=b) (n:=1) h.1
 have h2:=cz (b:=b) (n:=2) h1.1
 have hk:ZI b most (ar (af b) 2 (ar (af b) 1 s).2).2:=⟨h2.1,by rw[h2.2.2.2.2.1,h1.2.2.2.2.1];exact h.2⟩
 unfold vW
 simp only
 generalize hz:(if(ar (af b) 2 (ar (af b) 1 s).2).2.e≠0 then(ar (af b) 2 (ar (af b) 1 s).2).2 else if(ar (af b) 2 (ar (af b) 1 s).2).1=0 then wL (af b) most (ar (af b) 2 (ar (af b) 1 s).2).2 else if(ar (af b) 2 (ar (af b) 1 s).2).1=1 then oY (af b) most lM lL (8*b.length+2) (ar (af b) 2 (ar (af b) 1 s).2).2 else if(ar (af b) 2 (ar (af b) 1 s).2).1=2 then Af b most (ar (af b) 2 (ar (af b) 1 s).2).2 else(ar (af b) 2 (ar (af b) 1 s).2).2.fail 11)=z
 have hr:ZI b most z/\(ar (af b) 2 (ar (af b) 1 s).2).2.at_<=z.at_/\(z.e=0->(ar (af b) 2 (ar (af b) 1 s).2).2.e=0):=by
  subst hz
  split
  ·grind
  ·rename_i he
   have he:(ar (af b) 2 (ar (af b) 1 s).2).2.e=0:=E_
   split
   ·grind [T4,T5]
   ·split
    ·grind [F7,lM,lL]
    ·split
     ·grind [Lr,F7,lV,af,ar,Af]
     ·have hf:=eX (ar (af b) 2 (ar (af b) 1 s).2).2 11 BY
      exact⟨⟨A_,by rw[hf.2.1];exact hk.2⟩,A_,fun _=>he⟩
 grind
end
end Go.AB
end
section
set_option maxRecDepth 4000
namespace Go.AB
open Go
open Go.Proofs.Tryz (prog)
attribute[-go_sem] Nat.add_zero rE dE cL dm cg cK
abbrev stC(BR:Nat)(most:Int)(z:ZS):List AV:=[.ref BR 0,.int .i64 z.e,.sl true 1 z.out.length (flat z.out),.int .i64 most]
abbrev rdZ(b:List UInt8)(z:ZS):List AV:=[.int .i64 (z.at_:Int),.bool false,.bool true,.sl false 1 b.length (flat b)]
structure qh(s0 s:ae)(b:List UInt8)(most:Int)(B BR:Nat)(z:ZS):Prop where
 n0:s0 B=none
 n1:s0 BR=none
 ne:B≠BR
 sub:Sub s0 s
 hB:s B=some (.cells (stC BR most z))
 hR:s BR=some (.cells (rdZ b z))
def qh.yC{s0 s:ae}{b:List UInt8}{most:Int}{B BR:Nat}{z:ZS}(h:qh s0 s b most B BR z)(z':ZS):qh s0 ((s.set B (.cells (stC BR most z'))).set BR (.cells (rdZ b z'))) b most B BR z':=by
 refine⟨h.n0,h.n1,h.ne,fun x o hx=>?_,by rw[aj h.ne,cc],cc⟩
 have h1:x≠B:=fun e=>by subst e;rw[h.n0]at hx;cases hx
 have h2:x≠BR:=fun e=>by subst e;rw[h.n1]at hx;cases hx
 rw[aj h2,aj h1]
 exact h.sub _ _ hx
def qh.more{s0 s s':ae}{b:List UInt8}{most:Int}{B BR:Nat}{z:ZS}(h:qh s0 s b most B BR z)(hs:Sub s s'):qh s0 s' b most B BR z:=⟨h.n0,h.n1,h.ne,fun x o hx=>hs _ _ (h.sub x o hx),hs _ _ h.hB,hs _ _ h.hR⟩
theorem qh.off{s0 s s':ae}{b:List UInt8}{most:Int}{B BR:Nat}{z:ZS}(h:qh s0 s b most B BR z){y:Nat}(hy:s0 y=none)(h1:y≠B)(h2:y≠BR)(hs:∀x,x≠y->s' x=s x):qh s0 s' b most B BR z:=
 ⟨h.n0,h.n1,h.ne,fun x o hx=>by
   have:x≠y:=fun e=>by subst e;rw[hy]at hx;cases hx
   rw[hs x this];exact h.sub x o hx,by rw[hs B h1.symm];exact h.hB,by rw[hs BR h2.symm];exact h.hR⟩
def qh.tab{s0 s:ae}{b:List UInt8}{most:Int}{B BR:Nat}{z:ZS}(h:qh s0 s b most B BR z)(p q:SO){x:HT}(hx:im s x):im ((s.set B p).set BR q) x:=hx.Hf h.hB (xX _ _ _) h.hR (xW _ _ _ _) h.ne
section
variable{s0 s:ae}{b:List UInt8}{most:Int}{B BR:Nat}{z:ZS}{Q:List AV->ae->Prop}
def zc(hS:qh s0 s b most B BR z)(hb:b.length<72057594037927936){n:Nat}(hn:n<=31)(hz:ZI b most z)(hq:∀s',qh s0 s' b most B BR (ar (af b) n z).2->(∀x,im s x->im s' x)->(∀y,y≠B->y≠BR->s' y=s y)->Q [.int .i64 (ar (af b) n z).1] s'):FN prog 170 [.ref B 0,.int .i64 (n:Int)] s Q:=by
 have hl:=cz (b:=b) (n:=n) hz.1
 refine bV (s_0:=AZ b z) (n_1:=(n:Int)) (preB0:=[]) (postB0:=[.sl true 1 z.out.length (flat z.out),.int .i64 most]) hS.hB hS.hR rfl hS.ne ⟨_,KF AT hn hz.1,?_⟩
 have ho:z.out=(ar (af b) n z).2.out:=hl.2.2.2.2.1.symm
 rw[ho]
 exact hq _ (hS.yC _) (fun x hx=>hS.tab _ _ hx) fun y h1 h2=>(aj h2).trans (aj h1)
def xq(hS:qh s0 s b most B BR z)(e:Int)(hq:∀s',qh s0 s' b most B BR (z.fail e)->(∀x,im s x->im s' x)->(∀y,y≠B->y≠BR->s' y=s y)->Q [] s'):FN prog 176 [.ref B 0,.int .i64 e] s Q:=by
 refine bJ (s_0:=AZ b z) (e_1:=e) (preB0:=[]) (postB0:=[.sl true 1 z.out.length (flat z.out),.int .i64 most]) hS.hB hS.hR rfl hS.ne ⟨_,qL z e,?_⟩
 have ho:z.out=(z.fail e).out:=by unfold ZS.fail;split<;>rfl
 rw[ho]
 exact hq _ (hS.yC _) (fun x hx=>hS.tab _ _ hx) fun y h1 h2=>(aj h2).trans (aj h1)
def NB(hS:qh s0 s b most B BR z)(hb:b.length<72057594037927936)(hM:most<=16777216)(hz:ZI b most z)(hq:∀s',qh s0 s' b most B BR (wL (af b) most z)->Q [] s'):FN prog 171 [.ref B 0] s Q:=qu (s_0:=qf b most z) hS.hB hS.hR hS.ne ⟨_,Tl AT hM hz.1,hq _ (hS.yC _)⟩
def HZ(hS:qh s0 s b most B BR z)(hb:b.length<72057594037927936)(hM:most<=16777216)(hz:ZI b most z){t d:HT}(ht:im s t)(hd:im s d)(hq:∀s',qh s0 s' b most B BR (oY (af b) most t.lens d.lens (8*b.length+2) z)->Q [] s'):FN prog 173 [.ref B 0,.ref t.B 0,.ref d.B 0] s Q:=rG (s_0:=qf b most z) hS.hB hS.hR hS.ne ht hd ⟨_,XF AT hM ht.1 hd.1 t.B d.B hz,hq _ (hS.yC _)⟩
def SM(hS:qh s0 s b most B BR z)(hb:b.length<72057594037927936)(hz:ZI b most z){t:HT}(ht:im s t){n:Nat}(hn:n<1000)(hq:∀s' o,qh s0 s' b most B BR (qZ (af b) t.lens n (n+1) [] z).2->((qZ (af b) t.lens n (n+1) [] z).2.e=0->o=(qZ (af b) t.lens n (n+1) [] z).1)->Q [.sl true 1 o.length (flat o)] s'):FN prog 231 [.ref B 0,.ref t.B 0,.int .i64 (n:Int)] s Q:=by
 obtain⟨o,h1,h2,_⟩:=afq (b:=b) (most:=most) AT ht.1 t.B hn hz.1
 exact pY (s_0:=qf b most z) hS.hB hS.hR hS.ne ht ⟨_,h1,hq _ o (hS.yC _) h2⟩
end
end Go.AB
end
section
set_option maxRecDepth 16000
namespace Go.AB
open Go
open Go.Proofs.Tryz (prog)
attribute[-go_sem] cL dm cg cK
@[go_sem]theorem agp(g:Bool):(g=true->(2:Int)≠0)=True:=eq_true (fun _=>BY)
def du(t_0:aE):Option (Bool):=some ((t_0.Kind==1)&&(t_0.V.Kind==2))
def CQ{t_0}:FF 73 [.agg [.int .i64 t_0.Kind,.int .i64 t_0.mj,.int .i64 t_0.To,.int .i64 t_0.V.Kind,.int .i64 t_0.V.N,.str t_0.V.S.b,sF 4 t_0.V.L,.str t_0.S.b]] (du t_0) fun r=>[.bool r]:=by
 intro s Q
 exact FC 12 [⟨2,true,none⟩] 0x16f1440b844ae3ea6d1cde8652f01354bd3b953622ebee9632d28a8b77e3684e9995b du.eq_1
def mc{t_0}{s:ae}{r:Bool}(h:du t_0=some r):FE prog 73 [.agg [.int .i64 t_0.Kind,.int .i64 t_0.mj,.int .i64 t_0.To,.int .i64 t_0.V.Kind,.int .i64 t_0.V.N,.str t_0.V.S.b,sF 4 t_0.V.L,.str t_0.S.b]] s [.bool r] s:=CQ ⟨r,h,rfl,rfl⟩
def fg(e_0:Int):Option (Int):=
 if e_0==6 then
  some e_0
 else
  some 0
def vF{e_0}:FF 216 [.int .i64 e_0] (fg e_0) fun r=>[.int .i64 r]:=by
 intro s Q
 exact FC 6 [⟨2,true,none⟩] 0x13743a9027034cdc593cbaef04a17f0aaee6d95980227cc00473a fg.eq_1
def gX(w_0:aC):Option (aa×Int):=
 if w_0.b==(aC.mk [116,114,117,101]).b then
  some ((aa.mk 1 1 (aC.mk []) ([]:List aa)),0)
 else
  if w_0.b==(aC.mk [102,97,108,115,101]).b then
   some ((aa.mk 1 0 (aC.mk []) ([]:List aa)),0)
  else
   if w_0.b==(aC.mk [110,117,108,108]).b then
    some ((aa.mk 0 0 (aC.mk []) ([]:List aa)),0)
   else
    some ((aa.mk 0 0 (aC.mk []) ([]:List aa)),11)
def D6{w_0}:FF 160 [.str w_0.b] (gX w_0) fun r=>[.agg (ot r.1),.int .i64 r.2]:=by
 intro s Q
 exact FC 15 [⟨2,false,some (4,true)⟩,⟨3,true,none⟩] 0xd7c20874c185a339c02b433b146e117a0539fa0292fc528412546ac87ad89f6fcf49ebade6323318723764eef1f5562c08286dee5401c8da68b10dee125234ceee541a597142c5c7699d66e6d4e02135deeee8cff6b1d017fbd06c34f63b6406ea8e4604af75411a6287f5f971cb08c4fcf6753816cf3c972057b2003cd1eb37e0092758b gX.eq_1
def p9{w_0}{s:ae}{r:aa×Int}(h:gX w_0=some r):FE prog 160 [.str w_0.b] s [.agg (ot r.1),.int .i64 r.2] s:=D6 ⟨r,h,rfl,rfl⟩
structure fX where
 b_:(List UInt8)
 at_:Int
 a9:Bool
 open_:AV
def mJ(s_0:fX):Option (aE×Int×fX):=
 aL (eh s_0.b_ s_0.at_ s_0.a9) fun r1=>
 jn (
  if r1.2==0 then
   some (fX.mk s_0.b_ r1.1.To s_0.a9 s_0.open_)
  else
   some s_0) fun(o5:fX)=>
 some (r1.1,r1.2,o5)
def vh{s_0}{B0:Nat}{s:ae}{Q:List AV->ae->Prop}(hB0:s B0=some (.cells [sF 1 s_0.b_,.int .i64 s_0.at_,.bool s_0.a9,s_0.open_])):ok (mJ s_0) (fun r=>Q [.agg [.int .i64 r.1.Kind,.int .i64 r.1.mj,.int .i64 r.1.To,.int .i64 r.1.V.Kind,.int .i64 r.1.V.N,.str r.1.V.S.b,sF 4 r.1.V.L,.str r.1.S.b],.int .i64 r.2.1] (s.set B0 (.cells [sF 1 r.2.2.b_,.int .i64 r.2.2.at_,.bool r.2.2.a9,r.2.2.open_])))->FN prog 75 [.ref B0 0] s Q:=by
 rw[<-aZ hB0]
 refine FR 31 [⟨2,false,some (8,true)⟩,⟨3,true,none⟩] 0xa585870832a645d8922755274df8ccb23ecd5eea2a5b4ea365be3a0b8250d4db90a4428e8b2a198354768bf8310a65adae6d2020706a75e06c9d6756ffa5622e1a0e8b226c070b5bf5f4925fb0cc466f6ca13fbba9312483f014108e0f1e8561551408ce6f47eb73c84bde0f5143d6d1e68dd4d314637c57b2003defd1eb37e000000010bf58b mJ.eq_1 ?_
 repeat'(first
  |((with_reducible refine My ?_ ?_);exact rfl)
  |with_reducible refine cw (fun _(h:eh s_0.b_ s_0.at_ s_0.a9=some _)=>(c6 lg h:)) (fun _=>rfl) (fun r1=>?_)
  |((with_reducible refine aS (fun(o5:fX)=>⟨[(2,.loc [.int .i64 0,.int .i64 0,.int .i64 0,.int .i64 0,.int .i64 0,.str (aC.mk []).b,.sl true 4 0 [],.str (aC.mk []).b]),(4,.loc [.int .i64 r1.1.Kind,.int .i64 r1.1.mj,.int .i64 r1.1.To,.int .i64 r1.1.V.Kind,.int .i64 r1.1.V.N,.str r1.1.V.S.b,sF 4 r1.1.V.L,.str r1.1.S.b]),(5,.int .i64 r1.2)],[],(s.set B0 (.cells [sF 1 o5.b_,.int .i64 o5.at_,.bool o5.a9,o5.open_]))⟩) (fun J=>?_) ?_);rotate_left;rintro o5)
  |refine Xh2 ?_|exact Xh3)
def df(s_0:fX)(v_1:aa):Option (aa×Int×fX):=
 aL (eh s_0.b_ s_0.at_ s_0.a9) fun r1=>
 aL (eu (!(r1.2 !=0)) false (du r1.1)) fun r2=>
 if(r1.2 !=0)||(!r2)then
  aL (fg r1.2) fun r3=>
  some (v_1,r3,s_0)
 else
  aL (eh s_0.b_ r1.1.To s_0.a9) fun r4=>
  if((r4.2 !=0)||(r4.1.Kind !=6))||(!(r4.1.S.b==(aC.mk [82]).b))then
   aL (fg r4.2) fun r5=>
   some (v_1,r5,s_0)
  else
   if((decide (v_1.N<1))||(decide (v_1.N>4096)))||(r1.1.V.N !=0)then
    some (v_1,26,s_0)
   else
    some ((aa.mk 8 v_1.N (aC.mk []) ([]:List aa)),0,(fX.mk s_0.b_ r4.1.To s_0.a9 s_0.open_))
def wF{s_0 v_1}{B0:Nat}{s:ae}{Q:List AV->ae->Prop}(hB0:s B0=some (.cells [sF 1 s_0.b_,.int .i64 s_0.at_,.bool s_0.a9,s_0.open_])):ok (df s_0 v_1) (fun r=>Q [.agg (ot r.1),.int .i64 r.2.1] (s.set B0 (.cells [sF 1 r.2.2.b_,.int .i64 r.2.2.at_,.bool r.2.2.a9,r.2.2.open_])))->FN prog 161 [.ref B0 0,.agg (ot v_1)] s Q:=by
 rw[<-aZ hB0]
 refine FR 87 [⟨4,false,some (4,true)⟩,⟨5,true,none⟩] 0x1493c2500824ffa629457a2b6acff43c28aeb6c772b3d6295fa9c97171e249ae4c65a6e3f3d7b946471c201d0700716547ba4ccaf179c7912e25697f4db954a9dd547f4eb4ef56fb5563da5b23a83b571e357720381b5153e3e758a01a95ac327a632afc2cefde750bac86a013071f0e7d151d25b562941275b3349a82d5c07194d0595fa0b7e2c0018de22f34ae30565053b2ed8c5f9b7e9acc533f35ddb2d157d821f39b0dad1f8b44d28c8d5ee29d5f136d4b48c3ce04665a62879e893ce3692ba29e0a9ca077543457d8d514ce86f06f2fc343529cbed20c3f8cf3bf8304713693b997368a8f90b7c30b5ac370ae9220fc667c377bdec55d4a3389dc04a8c10996d9122bae9dddb378eadf0f8099e51f03a9cc0db15d8348dd86110d48b91678b3d88019aad66e30d0a2ec1b027f7813ad2f2ca5bedd76682764ba926bb13b088d52e5c77197dc9b6c5e81e18d516adc811ff9e0d35a6ebe12dac71cd16f9e5c23b2b28facc399d0503550805b3ae0d3d00dc04c39a03c df.eq_1 ?_
 repeat'(first
  |with_reducible exact bG
  |((with_reducible refine My ?_ ?_);exact rfl)
  |(with_reducible first|refine aV ?_ ?_|refine bI ?_|refine cw (fun _(h:eh s_0.b_ s_0.at_ s_0.a9=some _)=>(c6 lg h:)) (fun _=>rfl) (fun r1=>?_)|refine cP rfl (fun _(h:du r1.1=some _)=>mc h) (fun _=>rfl) (fun r2=>?_)|refine cw (fun _(h:fg r1.2=some _)=>(c6 vF h:)) (fun _=>rfl) (fun r3=>?_)|refine cw (fun _(h:eh s_0.b_ r1.1.To s_0.a9=some _)=>(c6 lg h:)) (fun _=>rfl) (fun r4=>?_)|refine cw (fun _(h:fg r4.2=some _)=>(c6 vF h:)) (fun _=>rfl) (fun r5=>?_))
  |refine Xh2 ?_|exact Xh3)
structure aX where
 fj:Bool
 l_:(List aa)
end Go.AB
end
section
namespace Go.AB
open Go
def dn(s0 s:ae)(H:List (Nat×SO)):Prop:=Sub s0 s/\(∀p∈H,s p.1=some p.2/\s0 p.1=none)/\(H.map Prod.fst).Nodup
def dn.perm{s0 s:ae}{H H':List (Nat×SO)}(h:dn s0 s H)(p:H.Perm H'):dn s0 s H':=⟨h.1,fun x hx=>h.2.1 x (p.mem_iff.2 hx),(p.map Prod.fst).nodup_iff.1 h.2.2⟩
def dn.nil{s:ae}:dn s s []:=⟨Sub.refl s,fun p hp=>by simp at hp,B_⟩
theorem dn.get{s0 s:ae}{k:Nat}{o:SO}{H:List (Nat×SO)}(h:dn s0 s ((k,o)::H)):s k=some o:=(h.2.1 _ List.mem_cons_self).1
def dn.mem{s0 s:ae}{k:Nat}{o:SO}{H:List (Nat×SO)}(h:dn s0 s H)(hm:(k,o)∈H):s k=some o:=(h.2.1 _ hm).1
def dn.tail{s0 s:ae}{p:Nat×SO}{H:List (Nat×SO)}(h:dn s0 s (p::H)):dn s0 s H:=⟨h.1,fun x hx=>h.2.1 x (List.mem_cons_of_mem _ hx),(List.nodup_cons.1 h.2.2).2⟩
theorem dn.set{s0 s:ae}{k:Nat}{o o':SO}{H:List (Nat×SO)}(h:dn s0 s ((k,o)::H)):dn s0 (s.set k o') ((k,o')::H):=by
 obtain⟨h1,h2,h3⟩:=h
 have h0:=(h2 _ List.mem_cons_self).2
 refine⟨fun b x hb=>?_,fun p hp=>?_,h3⟩
 ·rw[aj (fun e=>A_)];exact h1 b x hb
 ·rcases List.mem_cons.1 hp with rfl|hp
  ·grind [gq]
  ·obtain⟨q1,q2⟩:=h2 p (List.mem_cons_of_mem _ hp)
   refine⟨?_,q2⟩
   rw[aj (fun e=>?_)];exact q1
   grind
def dn.abI{s0 s:ae}{H:List (Nat×SO)}(h:dn s0 s H){k:Nat}(hk:s k=none):k∉H.map Prod.fst:=by
 intro hm
 obtain⟨p,hp,rfl⟩:=List.mem_map.1 hm
 rw[(h.2.1 p hp).1]at hk;cases hk
theorem dn.alloc{s0 s:ae}{k:Nat}{o:SO}{H:List (Nat×SO)}(h:dn s0 s H)(hk:s k=none):dn s0 (s.set k o) ((k,o)::H):=by
 have hn:=h.abI hk
 obtain⟨h1,h2,h3⟩:=h
 have h0:s0 k=none:=by
  cases e:s0 k with
  |none=>rfl
  |some x=>rw[h1 k x e]at hk;cases hk
 refine⟨h1.set hk,fun p hp=>?_,A_⟩
 rcases List.mem_cons.1 hp with rfl|hp
 ·grind [gq]
 grind [q1,q2,aj]
theorem dn.sub{s0 s s':ae}{H:List (Nat×SO)}(h:dn s0 s H)(hs:Sub s s'):dn s0 s' H:=⟨fun b o hb=>hs b o (h.1 b o hb),fun p hp=>⟨hs _ _ (h.2.1 p hp).1,(h.2.1 p hp).2⟩,h.2.2⟩
theorem Ow{s:ae}{k j:Nat}(h:j≠k):(s.del k) j=s j:=by unfold ae.del;rw[if_neg h]
def F9{s:ae}{k:Nat}{o:SO}(h:s k=some o):(s.del k).set k o=s:=by grind [ae.set,ae.del]
theorem dn.del{s0 s:ae}{k:Nat}{o:SO}{H:List (Nat×SO)}(h:dn s0 s ((k,o)::H)):dn s0 (s.del k) H/\(s.del k) k=none:=by
 obtain⟨h1,h2,h3⟩:=h
 have h0:=(h2 _ List.mem_cons_self).2
 refine⟨⟨fun b x hb=>?_,fun p hp=>?_,(List.nodup_cons.1 h3).2⟩,by unfold ae.del;simp⟩
 ·rw[Ow (fun e=>A_)];exact h1 b x hb
 ·obtain⟨q1,q2⟩:=h2 p (List.mem_cons_of_mem _ hp)
  refine⟨?_,q2⟩
  rw[Ow (fun e=>?_)];exact q1
  grind
section
variable{α:Type}[bz α]
def oQ(r:db)(l:List α):List (Nat×SO):=match r with
 |none=>[]
 |some (b,_,sp)=>[(b,.cells (flat l++sp))]
def KT(r:db)(l:List α):Prop:=match r with
 |none=>l=[]
 |some (_,cap,sp)=>0<cap/\l.length<=cap/\(flat l++sp).length=cap*bz.w α/\views sp=sp
def dn.row{s0 s:ae}{r:db}{l:List α}{H:List (Nat×SO)}(h:dn s0 s (oQ r l++H))(hf:KT r l):∃s1,s=kc s1 r l/\iR s1 r l/\dn s0 s1 H:=by
 cases r with
 |none=>exact⟨s,rfl,hf,h⟩
 |some x=>
  obtain⟨b,cap,sp⟩:=x
  have h':dn s0 s ((b,.cells (flat l++sp))::H):=h
  obtain⟨h1,h2⟩:=h'.del
  exact⟨s.del b,(F9 h'.get).symm,⟨h2,hf⟩,h1⟩
def dn.VP{s0 s1:ae}{r:db}{l:List α}{H:List (Nat×SO)}(h:dn s0 s1 H)(ho:iR s1 r l):dn s0 (kc s1 r l) (oQ r l++H)/\KT r l:=by
 cases r with
 |none=>exact⟨h,ho⟩
 |some x=>
  obtain⟨b,cap,sp⟩:=x
  exact⟨h.alloc ho.1,ho.2⟩
end
end Go.AB
end
section
set_option maxRecDepth 16000
namespace Go.AB
open Go
open Go.Proofs.Tryz (prog)
attribute[-go_sem] Nat.add_zero rE dE
def mw:IC:=dec 0x258b7d3a0d9a5c6788210d18f12b662ff5f5a178ba5916c2ce9ebd66a4f5833311d7ddcd955395ecd24f37faaebff9ecafd857d645906898bb65ad638d48172c6e3293f098d997276e469f5e9b29377b7dd062da56b03fa5408cf80b91f8bafc79d7cba39cbc21cf9450812ec18843b42d1aa3d842b2c500eb23ac03c0fc37378f10cb6f2dcf511f886c88374986b0be7dc63d6523f58a5fcee8b241ab45afc0dcbeb17f65582c00795da2b3550805b3ae0d3d00dc06a99a03c
def sB:m5 prog 120 47 [⟨4,false,some (4,true)⟩,⟨5,true,none⟩] mw=true:=C_
def nC:IC:=dec 0x9eff11f0280aa8837cd17149baf2ac3dfcfff7fd5be1db4ad3da22635ff9659d8aebb78acaed4fea5849e08cc4a206a56229d790d3c7d4d571d161f57c91559aa8c50a777f4aa8656d3faa01424b8174f15f4f0185be2e1d2699efc0e2429bf250e7d3c5544b7c2b324c14f5c0dc6258e0afe04e568533a4c077f77d9a7cfbbf6e3bc39a2586ad1a52b09259717e62565db6dddfecaaf09c0202dfd00b89a4ae9b55e7fddc60e1c884c1de77663ec56249f80b719f08ca661b577e2d28a98dbc6047ca84f4230504cea1546074f11b4cec3eed10f3a621b905135913fee36b26453d681649463132fc8edc18fb443a16ad4024f67c8aad289c17b5636465d407f97fbc7ac609956324e27fc605128db3ae0d3d00dc06a99a08d
def u7:m5 prog 76 54 [⟨4,false,some (4,true)⟩,⟨5,true,none⟩,⟨6,true,none⟩] nC=true:=C_
structure JK where
 n:Option Nat
def JK.c(x:JK):AV:=match x.n with
 |none=>.fO
 |some b=>.ref b 0
instance:bz JK:=⟨1,fun x=>[x.c],⟨none⟩,BY,fun _=>rfl,fun x=>by obtain⟨_|b⟩:=x<;>rfl⟩
def refs(ids:List (Nat×db)):List JK:=ids.map fun i=>⟨some i.1⟩
def PH(r:db)(v:aX):SO:=.cells [.bool v.fj,jG r v.l_.length]
def Zh(id:Nat×db)(v:aX):List (Nat×SO):=(id.1,PH id.2 v)::oQ id.2 v.l_
def AL:List (Nat×db)->List aX->List (Nat×SO)
 |id::ids,v::vs=>Zh id v++AL ids vs
 |_,_=>[]
def SR:List (Nat×db)->List aX->Prop
 |id::ids,v::vs=>KT id.2 v.l_/\SR ids vs
 |[],[]=>True
 |_,_=>False
theorem qH:∀{ids:List (Nat×db)}{vs:List aX},SR ids vs->ids.length=vs.length
 |[],[],_=>rfl
 |_::ids,_::vs,h=>by rw[List.length_cons,List.length_cons,qH h.2]
 |[],_::_,h=>h.elim
 |_::_,[],h=>h.elim
structure PS where
 b:List UInt8
 at_:Int
 last:Bool
 st:List aX
def jU(p:PS)(rr:db):List AV:=[.sl false 1 p.b.length (flat p.b),.int .i64 p.at_,.bool p.last,jG rr p.st.length]
def rj(s0 s:ae)(B:Nat)(p:PS)(rr:db)(ids:List (Nat×db)):Prop:=SR ids p.st/\KT rr (refs ids.reverse)/\dn s0 s ((B,.cells (jU p rr))::(oQ rr (refs ids.reverse)++AL ids p.st))
theorem qQ(ids:List (Nat×db)):(refs ids).length=ids.length:=by unfold refs;simp
theorem rj.cell{s0 s:ae}{B:Nat}{p:PS}{rr:db}{ids:List (Nat×db)}(h:rj s0 s B p rr ids):s B=some (.cells (jU p rr)):=h.2.2.get
theorem rj.ref{s0 s:ae}{B:Nat}{p:PS}{rr:db}{id:Nat×db}{ids:List (Nat×db)}(h:rj s0 s B p rr (id::ids)):
 ∃rb cap sp,rr=some (rb,cap,sp)/\s rb=some (.cells (flat (refs (id::ids).reverse)++sp))/\(flat (refs (id::ids).reverse)++sp)[ids.length]? =some (.ref id.1 0):=by
 obtain⟨h1,h2,h3⟩:=h
 have hl:0<(refs (id::ids).reverse).length:=by rw[qQ];simp
 cases rr with
 |none=>rw[show refs (id::ids).reverse=[] from h2]at hl;simp at hl
 |some x=>
  obtain⟨rb,cap,sp⟩:=x
  refine⟨rb,cap,sp,rfl,h3.mem (by simp[oQ]),?_⟩
  have hi:ids.length<(refs (id::ids).reverse).length:=by rw[qQ];simp
  have:=J8 (refs (id::ids).reverse) sp (i:=ids.length) (r:=0) hi BY
  rw[show ids.length*bz.w JK+0=ids.length by show ids.length*1+0=_;omega]at this
  rw[this]
  have e:(refs (id::ids).reverse)[ids.length]=⟨some id.1⟩:=by
   unfold refs
   simp
  rw[e];rfl
theorem Mj{cs:List AV}{off:Nat}{a:AV}(h:cs[off]? =some a):off+1<=cs.length/\AB.sub cs off 1=[a]:=by
 obtain⟨h1,h2⟩:=List.getElem?_eq_some_iff.1 h
 refine⟨h1,?_⟩
 unfold AB.sub
 rw[List.drop_eq_getElem_cons h1,h2];rfl
theorem M3{cs:List AV}{off b:Nat}(h:cs[off]? =some (.ref b 0)):IV [.fO] false off (some (.cells cs))=.fY (off+1<=cs.length) (.ref b 0):=by
 show YQ _ (od false (pad [.fO] (views (AB.sub cs off 1))))=_
 rw[(Mj h).2]
 rfl
def Hr{s0 s:ae}{B:Nat}{p:PS}{rr:db}{ids:List (Nat×db)}(h:rj s0 s B p rr ids)(bP:p.st.length<=room){Q:List AV->ae->Prop}(hn:p.st=[]->Q [.fO] s)
 (hc:∀id gw v vs,ids=id::gw->p.st=v::vs->Q [.ref id.1 0] s):FN prog 77 [.ref B 0] s Q:=by
 have hB:=h.cell
 have hlen:=qH h.1
 refine FS 21 [⟨2,true,none⟩] 0x161974d73ac07a590df8be85a0bdd439b8a08bfd3287ef1b044298e9953e67306d418fdc5295b973e744f21a4be778ca0d29a9a4f4db163de781aa56e3b98befa386141d9388473a ?_
 unfold jU at hB
 refine Xh5 hB ?_
 refine⟨fun he=>hn (List.eq_nil_of_length_eq_zero E_),fun hne=>?_⟩
 have hne:p.st.length≠0:=ψ
 cases dQ:p.st with
 |nil=>rw[dQ]at hne;exact absurd rfl hne
 |cons v vs=>
 cases ids with
 |nil=>rw[dQ]at hlen;simp at hlen
 |cons id gw=>
 obtain⟨rb,cap,sp,rfl,h1,h2⟩:=h.ref
 have hl:p.st.length=gw.length+1:=by rw[<-hlen];rfl
 rw[<-dQ]
 have hr:room=140737488355328:=rfl
 have hw:ao ((p.st.length:Int) -1)=(gw.length:Int):=H_
 rw[hw]
 refine⟨AT,?_⟩
 show qK _ _ _ (IV _ _ _ (s rb))
 rw[h1,Int.toNat_natCast,Nat.mul_one,M3 h2]
 refine Xh2 ?_
 exact⟨by have:=(Mj h2).1;rwa[List.length_append]at this,hc id gw v vs rfl dQ⟩
def DJ{s:ae}{B n:Nat}{d:Bool}{r:db}{Q:List AV->ae->Prop}(hB:s B=some (.cells [.bool d,jG r n]))(hq:Q [.bool (d&&((n:Int).tmod 2==0))] s):FN prog 158 [.ref B 0] s Q:=by
 refine FS 16 [⟨2,true,none⟩] 0x135b9169b7b375df6a7a18c2e418e745255703a8cb0eb515f4bec6a53fdd945002c00437f1ff9b3d8824473a ?_
 refine Xh5 hB ?_
 exact hq
def c5:List aX->Bool
 |[]=>false
 |v::_=>v.fj&&((v.l_.length:Int).tmod 2==0)
def rj.lv{s0 s:ae}{B:Nat}{p:PS}{rr:db}{id:Nat×db}{ids:List (Nat×db)}{v:aX}{vs:List aX}(h:rj s0 s B p rr (id::ids))(dQ:p.st=v::vs):s id.1=some (PH id.2 v):=by
 refine h.2.2.mem ?_
 rw[dQ]
 simp[AL,Zh]
theorem qP(id:Nat×db)(ids:List (Nat×db)):refs (id::ids).reverse=refs ids.reverse++[⟨some id.1⟩]:=by unfold refs;simp
def EB{σ:St}{d:Option Nat}{K:St->Prop}{s0 s:ae}{B b:Nat}{p:PS}{rr:db}{ids:List (Nat×db)}{iA:Bool}(h:rj s0 s B p rr ids)(bP:p.st.length<=64)(hb:s b=none)(hσ:σ.s=s.set b (.cells [.bool iA,.arr 0 0 0 0]))
 (hK:∀s1 rr',s1 B=some (.cells (jU p rr))->(∃gw,rj s0 (s1.set B (.cells (jU {p with st:=⟨iA,[]⟩::p.st} rr'))) B {p with st:=⟨iA,[]⟩::p.st} rr' gw)->K ({σ with s:=s1}.put d (jG rr' (p.st.length+1)))):
 eP 1 8 [.fO] σ d K (jG rr p.st.length) (zu σ.s 1 (.sl true 1 1 [.ref b 0])):=by
 obtain⟨h1,h2,h3⟩:=h
 have hlen:=qH h1
 have hr:room=140737488355328:=rfl
 have hl:(refs ids.reverse).length=p.st.length:=by rw[qQ];simp[hlen]
 have H0:=h3.alloc (o:=.cells [.bool iA,.arr 0 0 0 0]) hb
 have H0':dn s0 (s.set b (.cells [.bool iA,.arr 0 0 0 0])) (oQ rr (refs ids.reverse)++([(b,.cells [.bool iA,.arr 0 0 0 0]),(B,.cells (jU p rr))]++AL ids p.st)):=H0.perm (List.perm_append_comm_assoc [(b,SO.cells [.bool iA,.arr 0 0 0 0]),(B,SO.cells (jU p rr))] _ _)
 obtain⟨s1,e,ok,H1⟩:=H0'.row h2
 rw[pL,<-hl]
 refine FW (z:=(⟨none⟩:JK)) (v:=(⟨some b⟩:JK)) (hσ.trans e) ok rfl k_ fun s' r' hs' ok'=>?_
 rw[hl]
 obtain⟨H2,hf⟩:=(H1.sub hs').VP ok'
 have H3:dn s0 (kc s' r' (refs ids.reverse++[⟨some b⟩])) ((B,.cells (jU p rr))::(oQ r' (refs ids.reverse++[⟨some b⟩])++((b,.cells [.bool iA,.arr 0 0 0 0])::AL ids p.st))):=by
  refine H2.perm ?_
  refine(List.perm_append_comm_assoc _ [(b,SO.cells [.bool iA,.arr 0 0 0 0]),(B,SO.cells (jU p rr))] _).trans ?_
  refine(List.Perm.swap ..).trans ?_
  refine List.Perm.cons _ ?_
  exact List.perm_append_comm_assoc [(b,SO.cells [.bool iA,.arr 0 0 0 0])] _ _
 refine hK _ r' H3.get ⟨(b,none)::ids,⟨rfl,h1⟩,?_,?_⟩
 ·rw[qP];exact hf
 ·rw[qP]
  exact H3.set
def N6{s0 s:ae}{B:Nat}{p:PS}{rr:db}{ids:List (Nat×db)}(h:rj s0 s B p rr ids)(bP:p.st.length<=64){iA:Bool}{Q:List AV->ae->Prop}(he:c5 p.st=true->Q [.int .i64 11] s)
 (hd:c5 p.st=false->64<=p.st.length->Q [.int .i64 15] s)
 (hk:c5 p.st=false->p.st.length<64->∀s' rr' gw,rj s0 s' B {p with st:=⟨iA,[]⟩::p.st} rr' gw->Q [.int .i64 0] s'):FN prog 118 [.ref B 0,.bool iA] s Q:=by
 have hB:=h.cell
 have hlen:=qH h.1
 have hr:room=140737488355328:=rfl
 have rest:c5 p.st=false->∀(Q':Prop),Q'->Q':=fun _ _ x=>x
 refine FS 32 [⟨4,true,none⟩] 0xf0474b042b806c442b5b52dcf60dc2eea14cd04f9b59f84d6144db242513903ba5c83c982b45cac0afa270d7d2ca2a855f87963740005eb3841d8cf90d11372a22ee376aeec6c864fe7854b776c4958717fd817113fa306e1d9db85d5a14f7269a0c4752fe734d3c14740d3980083fa ?_
 unfold jU at hB
 refine Xh2 ?_
 refine Hr h AT (fun dQ=>?_) (fun id gw v vs Ki dQ=>?_)
 ·refine Xh5 hB ?_
  refine⟨[.bool false],rfl,fun h=>F_,?_⟩
  have hw:c5 p.st=false:=g_
  simp -implicitDefEqProofs only[go_sem,seval,hB,Bool.false_and,Bool.and_false]
  refine⟨fun hx=>he (by first|exact hx|exact absurd hx id),fun hx=>?_⟩
  have hw:c5 p.st=false:=by first|exact hw|exact hx
  refine⟨fun hx=>hd hw Xe8,fun hx b hb=>?_⟩
  have hlt:p.st.length<64:=Xe9
  refine EB h bP hb rfl fun s1 rr' hB1⟨gw,Pg⟩=>?_
  unfold jU at hB1
  refine Xh5 hB1 ?_
  exact hk hw hlt _ _ _ Pg
 ·refine Xh5 hB ?_
  subst Ki
  have hlv:=h.lv dQ
  refine⟨[.bool (c5 p.st)],rfl,fun _=>⟨_,rfl,DJ hlv (by rw[dQ];exact⟨rfl,rfl⟩)⟩,?_⟩
  simp -implicitDefEqProofs only[go_sem,seval,hB,Bool.true_and,Bool.and_true]
  refine⟨fun hx=>he (by first|exact hx|exact absurd hx id),fun hx=>?_⟩
  have hw:c5 p.st=false:=by first|exact hw|exact hx
  refine⟨fun hx=>hd hw Xe8,fun hx b hb=>?_⟩
  have hlt:p.st.length<64:=Xe9
  refine EB h bP hb rfl fun s1 rr' hB1⟨gw,Pg⟩=>?_
  unfold jU at hB1
  refine Xh5 hB1 ?_
  exact hk hw hlt _ _ _ Pg
def aav{σ:St}{d:Option Nat}{K:St->Prop}{s0:ae}{R:List (Nat×SO)}{r:db}{l:List aa}(hσ:dn s0 σ.s (oQ r l++R))(hf:KT r l)
 (hK:∀s2,dn s0 s2 R->K ({σ with s:=s2}.put d (.sl false 4 l.length (flat l)))):tc 4 false σ d K (jG r l.length):=by
 cases r with
 |none=>
  obtain rfl:l=[]:=hf
  exact .inl ⟨rfl,rfl,rfl,hK σ.s hσ⟩
 |some x=>
  obtain⟨b,cap,sp⟩:=x
  obtain⟨f1,f2,f3,f4⟩:=hf
  have hE':dn s0 σ.s ((b,.cells (flat l++sp))::R):=hσ
  refine .inr ⟨f1,f2,fun h=>F_,?_⟩
  have hle:0+l.length*4<=(flat l++sp).length:=by rw[f3,Nat.zero_add];exact Nat.mul_le_mul_right _ f2
  have hc:jA l.length 4 0 (σ.s b)=some (l.length,flat l):=by
   rw[hE'.get]
   unfold jA
   simp only[decide_eq_true hle,cond_true]
   have:=pH l sp 4 0 l.length rfl AT
   rw[Nat.zero_mul]at this
   rw[this,List.drop_zero,List.take_length,bt]
  show tc.frzK 4 false σ d K b l.length (jA l.length 4 0 (σ.s b))
  rw[hc]
  exact hK _ hE'.del.1
def rj.pop{s0 s:ae}{B:Nat}{p:PS}{rr:db}{id:Nat×db}{ids:List (Nat×db)}{v:aX}{vs:List aX}(h:rj s0 s B p rr (id::ids))(dQ:p.st=v::vs):
 ∃rr',KS rr'=KS rr/\G8 rr'=G8 rr/\KT rr' (refs ids.reverse)/\SR ids vs/\KT id.2 v.l_/\dn s0 s ((B,.cells (jU p rr))::(oQ rr' (refs ids.reverse)++(Zh id v++AL ids vs))):=by
 have hr:=h.ref
 obtain⟨rb,cap,sp,rfl,_,_⟩:=hr
 obtain⟨h1,h2,h3⟩:=h
 rw[dQ]at h1 h3
 obtain⟨f1,f2,f3,f4⟩:=h2
 have e:flat (refs (id::ids).reverse)++sp=flat (refs ids.reverse)++(.ref id.1 0::sp):=by rw[qP,fq,List.append_assoc];rfl
 refine⟨some (rb,cap,.ref id.1 0::sp),rfl,rfl,⟨f1,?_,?_,?_⟩,h1.2,h1.1,?_⟩
 ·rw[qQ]at f2⊢;simp at f2⊢;omega
 ·rw[<-e];exact f3
 ·unfold views at f4⊢;rw[List.map_cons,f4];rfl
 ·unfold oQ at h3⊢
  simp only[]at h3⊢
  rw[<-e]
  exact h3
def LO{s0 s:ae}{X:Nat×SO}{R T:List (Nat×SO)}{id:Nat×db}{v:aX}(h:dn s0 s (X::(R++(Zh id v++T)))):dn s0 s (oQ id.2 v.l_++(X::(R++T))):=by
 have p1:(X::(R++(Zh id v++T))).Perm ((id.1,PH id.2 v)::((X::R)++(oQ id.2 v.l_++T))):=List.perm_middle (l₁:=X::R)
 have p2:((X::R)++(oQ id.2 v.l_++T)).Perm (oQ id.2 v.l_++((X::R)++T)):=List.perm_append_comm_assoc ..
 exact(h.perm p1).tail.perm p2
def Rf:List AV:=[.int .i64 0,.int .i64 0,.str [],.sl false 4 0 []]
def pW(st:List aX)(iA:Bool):Bool:=match st with
 |[]=>true
 |v::_=>(v.fj !=iA)||(iA&&!c5 st)
abbrev wW(pf:List aa->Option (List aa×Int)):Prop:=∀(s:ae)(l:List aa)(r:List aa×Int),pf l=some r->FE prog 159 [.sl false 4 l.length (flat l)] s [.sl false 4 r.1.length (flat r.1),.int .i64 r.2] s
@[go_sem]theorem PU:mE .fO=.no:=rfl
@[go_sem]theorem NN(o:Nat)(x:IX):gR o x (.jV [])=.no:=rfl
@[go_sem]theorem adX(σ:St)(n:Nat):rd σ (.jV []) n=none:=rfl
@[go_sem]theorem acV(op:UnOp):VN op (.jV [])=.no:=by cases op<;>rfl
@[go_sem]theorem YU(ne:Bool)(y:AV):J7 ne (.jV []) y=.no:=rfl
def Wp{pf:List aa->Option (List aa×Int)}(hpf:wW pf){s0 s:ae}{B:Nat}{p:PS}{rr:db}{ids:List (Nat×db)}(h:rj s0 s B p rr ids)(bP:p.st.length<=64){iA:Bool}{Q:List AV->ae->Prop}
 (h0:pW p.st iA=true->Q [.agg Rf,.int .i64 11] s)
 (hA:∀v vs,p.st=v::vs->iA=false->pW p.st iA=false->∀s' rr' gw,rj s0 s' B {p with st:=vs} rr' gw->Q [.agg [.int .i64 6,.int .i64 0,.str [],.sl false 4 v.l_.length (flat v.l_)],.int .i64 0] s')
 (hD:∀v vs,p.st=v::vs->iA=true->pW p.st iA=false->ok (pf v.l_) fun r=>(r.2≠0->∀s',Sub s0 s'->Q [.agg Rf,.int .i64 r.2] s')/\
   (r.2=0->∀s' rr' gw,rj s0 s' B {p with st:=vs} rr' gw->Q [.agg [.int .i64 7,.int .i64 0,.str [],.sl false 4 r.1.length (flat r.1)],.int .i64 0] s')):FN prog 119 [.ref B 0,.bool iA] s Q:=by
 have hB:=h.cell
 have hlen:=qH h.1
 have hr:room=140737488355328:=rfl
 refine FS 81 [⟨4,false,some (4,true)⟩,⟨5,true,none⟩] 0x2e72d6f9e2048057991a5779638c001ff00cba395399d6ab614235fa681d577c1f43381d165d5be0a404589b75afecd9ff5514ca228666ed74f4a3a2917ad79295f2b22730a1e6d4ba5d664c27625380306b6474c53b039eccdf465a39b4b7592210f8e0bb149d9110a7629a967e7f3a6455d25f2ec78eaf120355939695de13f3da3ea8bf6d0499baebd3be66a4db6e827a0b459ac39463170fe83a2eb80fac62ece3b5374006432532adaba2d571f0abb80cb514d389432ced5351d96e80a396b16fa54b0719c0e8c9ef7335a6471039bdaeb04f98eb6a10e89fc854052e8906eda1cd76113f3ef978389c474be4c07daa2d139bca295ceff7ad7bac9e47604b67371a451a338b0c2cc26c75ab0943f5db340d6df975052673529370b8917b64a9a10f16fcda471dae9da7918b003cd1eb37e0092b24b ?_
 unfold jU at hB
 refine Xh2 ?_
 refine Hr h AT (fun dQ=>?_) (fun id gw v vs Ki dQ=>?_)
 ·have Ch:pW p.st iA=true:=g_
  simp -implicitDefEqProofs only[go_sem,seval,hB,Bool.true_eq_false,false_implies,true_implies,true_and]
  exact h0 Ch
 ·subst Ki
  have hlv:=h.lv dQ
  unfold PH at hlv
  have hbd:pW p.st iA=((v.fj !=iA)||(iA&&!c5 p.st)):=g_
  have htw:c5 p.st=(v.fj&&((v.l_.length:Int).tmod 2==0)):=g_
  refine Xh5 hB ?_
  cases hdv:v.fj<;>cases iA
  all_goals(rw[hdv]at hlv;simp -implicitDefEqProofs only[go_sem,Nat.reduceBEq,Nat.reduceAdd,Nat.reduceMul,Nat.reduceLeDiff,Nat.reduceEqDiff,Nat.reduceBNe,UInt8.reduceToNat,UInt32.reduceToNat,hB,hlv,bL,beq_self_eq_true,Bool.and_self,Bool.not_true,Bool.not_false,Bool.and_false,Bool.false_and,Bool.and_true,Bool.true_and])
  ·have hbf:pW p.st false=false:=Xf7
   obtain⟨rr',e1,e2,f1,f2,f3,H⟩:=h.pop dQ
   have gv:p.st.length<=G8 rr:=by
    obtain⟨rb,cap,sp,rfl,_,_⟩:=h.ref
    have:=h.2.1.2.1
    rw[qQ,List.length_reverse,hlen]at this
    exact this
   have hn:p.st.length=vs.length+1:=g_
   have hw:ao ((p.st.length:Int) -1)=(vs.length:Int):=H_
   rw[hw]
   refine⟨⟨AT,AT,AT⟩,?_⟩
   have H':=H.set (o':=.cells (jU {p with st:=vs} rr'))
   have es:jU {p with st:=vs} rr'=[.sl false 1 p.b.length (flat p.b),.int .i64 p.at_,.bool p.last,.arr (KS rr) 0 (vs.length:Int).toNat (G8 rr)]:=by
    unfold jU jG
    rw[e1,e2];rfl
   rw[es]at H'
   have hl2:=H'.mem (k:=id.1) (o:=PH id.2 v) (by simp[Zh])
   rw[hl2]
   unfold PH
   refine Xh2 ?_
   refine aav (LO H') f3 fun s2 H2=>?_
   refine Xh2 ?_
   exact hA v vs dQ rfl hbf s2 rr' gw ⟨f2,f1,by rw[es];exact H2⟩
  ·exact h0 Xf7
  ·exact h0 Xf7
  ·refine DJ hlv ?_
   simp -implicitDefEqProofs only[go_sem,seval,hB,hlv,bL,beq_self_eq_true,Bool.and_self,Bool.not_true,Bool.not_false,Bool.and_false,Bool.false_and,Bool.and_true,Bool.true_and]
   have aaV:c5 p.st=((v.l_.length:Int).tmod 2==0):=by rw[htw,hdv];rfl
   refine⟨fun hx=>h0 (by rw[hbd,hdv,aaV];simpa using hx),fun hx=>?_⟩
   have hbf:pW p.st true=false:=by rw[hbd,hdv,aaV];simpa using hx
   obtain⟨rr',e1,e2,f1,f2,f3,H⟩:=h.pop dQ
   refine aav (LO H) f3 fun s2 H2=>?_
   have hB2:=H2.get
   unfold jU at hB2
   obtain⟨r,hr1,hr2,hr3⟩:=hD v vs dQ rfl hbf
   refine Xh2 ?_
   refine FE.app (hpf s2 v.l_ r hr1) ⟨rfl,?_⟩
   refine Xg8 hB2 ?_
   have gv:p.st.length<=G8 rr:=by
    obtain⟨rb,cap,sp,rfl,_,_⟩:=h.ref
    have:=h.2.1.2.1
    rw[qQ,List.length_reverse,hlen]at this
    exact this
   have hn:p.st.length=vs.length+1:=g_
   have hw:ao ((p.st.length:Int) -1)=(vs.length:Int):=H_
   rw[hw]
   have es:jU {p with st:=vs} rr'=[.sl false 1 p.b.length (flat p.b),.int .i64 p.at_,.bool p.last,.arr (KS rr) 0 (vs.length:Int).toNat (G8 rr)]:=by
    unfold jU jG
    rw[e1,e2];rfl
   refine⟨fun hx=>hr2 i_ s2 H2.1,fun hx=>⟨⟨AT,AT,AT⟩,?_⟩⟩
   have H3:=H2.set (o':=.cells (jU {p with st:=vs} rr'))
   rw[es]at H3
   exact hr3 i_ _ rr' gw ⟨f2,f1,by rw[es];exact H3⟩
set_option maxRecDepth 4000
def TL(b:List UInt8)(a:Int)(last:Bool)(o:AV)(v:aa){r:aa×Int×fX}(h:df ⟨b,a,last,.fO⟩ v=some r):df ⟨b,a,last,o⟩ v=some (r.1,r.2.1,⟨b,r.2.2.at_,last,o⟩):=by
 unfold df at h⊢
 simp only[]at h⊢
 cases h1:eh b a last with
 |none=>rw[h1]at h;cases h
 |some r1=>
  rw[h1]at h
  simp only[aL]at h⊢
  cases h2:eu (!(r1.2 !=0)) false (du r1.1)with
  |none=>rw[h2]at h;cases h
  |some r2=>
   rw[h2]at h
   simp only[]at h⊢
   cases h3:((r1.2 !=0)||(!r2))with
   |true=>
    simp only[h3,if_true]at h⊢
    cases h4:fg r1.2 with
    |none=>rw[h4]at h;cases h
    |some r3=>rw[h4]at h;cases h;rfl
   |false=>
    simp only[h3,Bool.false_eq_true,if_false]at h⊢
    cases h4:eh b r1.1.To last with
    |none=>rw[h4]at h;cases h
    |some r4=>
     rw[h4]at h
     simp only[]at h⊢
     cases h5:(((r4.2 !=0)||(r4.1.Kind !=6))||(!(r4.1.S.b==(aC.mk [82]).b)))with
     |true=>
      first
      |(simp only[h5,if_true]at h;cases h;done)
      |(simp only[h5,if_true]at h⊢
        cases h6:fg r4.2 with
        |none=>rw[h6]at h;cases h
        |some r5=>rw[h6]at h;cases h;rfl)
     |false=>
      simp only[h5,Bool.false_eq_true,if_false]at h⊢
      cases h6:(((decide (v.N<1))||(decide (v.N>4096)))||(r1.1.V.N !=0))with
      |true=>first|(simp only[h6,if_true]at h;cases h;done)|(simp only[h6,if_true]at h⊢;cases h;rfl)
      |false=>first|(simp only[h6,Bool.false_eq_true,if_false]at h;cases h;done)|(simp only[h6,Bool.false_eq_true,if_false]at h⊢;cases h;rfl)
def zV:aa:=⟨0,0,⟨[]⟩,[]⟩
def vA(v:aa):AV:=.agg [.int .i64 v.Kind,.int .i64 v.N,.str v.S.b,.sl false 4 v.L.length (flat v.L)]
def tA(t:aE):AV:=.agg [.int .i64 t.Kind,.int .i64 t.mj,.int .i64 t.To,.int .i64 t.V.Kind,.int .i64 t.V.N,.str t.V.S.b,.sl false 4 t.V.L.length (flat t.V.L),.str t.S.b]
def kR(p:PS)(t:aE):Option (aa×Int×Int):=
 if c5 p.st&&(t.Kind !=1||t.V.Kind !=5)then some (zV,11,p.at_)
 else if t.Kind==6 then aL (gX t.S) fun r=>some (r.1,r.2,p.at_)
 else aL (du t) fun w=>if w then aL (df ⟨p.b,p.at_,p.last,.fO⟩ t.V) fun r=>some (r.1,r.2.1,r.2.2.at_)else some (t.V,0,p.at_)
def rj.place{s0 s:ae}{B:Nat}{p:PS}{rr:db}{ids:List (Nat×db)}(h:rj s0 s B p rr ids)(a:Int):rj s0 (s.set B (.cells (jU {p with at_:=a} rr))) B {p with at_:=a} rr ids:=⟨h.1,h.2.1,h.2.2.set⟩
def KR{s0 s:ae}{B:Nat}{p:PS}{rr:db}{ids:List (Nat×db)}(h:rj s0 s B p rr ids){v:aa}{r:aa×Int×fX}(hr:df ⟨p.b,p.at_,p.last,.fO⟩ v=some r){Q:List AV->ae->Prop}
 (hq:∀s',rj s0 s' B {p with at_:=r.2.2.at_} rr ids->Q [vA r.1,.int .i64 r.2.1] s'):FN prog 161 [.ref B 0,vA v] s Q:=by
 refine wF (s_0:=⟨p.b,p.at_,p.last,jG rr p.st.length⟩) h.cell ⟨_,TL _ _ _ (jG rr p.st.length) _ hr,?_⟩
 exact hq _ (h.place _)
def Nt{s0 s:ae}{B:Nat}{p:PS}{rr:db}{ids:List (Nat×db)}(h:rj s0 s B p rr ids)(bP:p.st.length<=64){t:aE}{Q:List AV->ae->Prop}
 (hm:ok (kR p t) fun r=>∀s',rj s0 s' B {p with at_:=r.2.2} rr ids->Q [vA r.1,.int .i64 r.2.1] s'):FN prog 120 [.ref B 0,tA t] s Q:=by
 have hB:=h.cell
 have hlen:=qH h.1
 have hr:room=140737488355328:=rfl
 unfold kR at hm
 simp only[P3,kX,bK]at hm
 obtain⟨m1,m2⟩:=hm
 refine FO sB rfl rfl ?_
 rw[mw]
 refine Xh4 ?_
 unfold jU at hB
 unfold tA
 refine Xh2 ?_
 refine Hr h AT (fun dQ=>?_) (fun id gw v vs Ki dQ=>?_)
 ·have htw:c5 p.st=false:=g_
  rw[htw]at m1 m2
  refine Xh6 hB ?_
  refine⟨fun hk=>?_,fun hk=>?_⟩
  ·obtain⟨r,hr1,hr2⟩:=(m2 rfl).1 hk
   refine FE.app (p9 hr1) ?_
   refine Xh2 ?_
   exact hr2 s h
  ·obtain⟨w,hw1,hw2⟩:=(m2 rfl).2 hk
   refine FE.app (mc hw1) ?_
   refine Xh2 ?_
   refine⟨fun hw=>?_,fun hw=>?_⟩
   ·obtain⟨r,hr1,hr2⟩:=hw2.1 hw
    refine KR h hr1 fun s' hs'=>?_
    unfold vA
    refine Xh2 ?_
    exact hr2 s' hs'
   ·exact hw2.2 hw s h
 ·subst Ki
  have hlv:=h.lv dQ
  refine Xh5 hB ?_
  refine⟨fun _=>DJ hlv ?_,fun hx=>u_⟩
  have htw:(v.fj&&((v.l_.length:Int).tmod 2==0))=c5 p.st:=g_
  rw[htw]
  cases hw:c5 p.st<;>rw[hw]at m1 m2
  all_goals simp -implicitDefEqProofs only[go_sem,seval,hB,bL]
  ·refine⟨fun hk=>?_,fun hk=>?_⟩
   ·obtain⟨r,hr1,hr2⟩:=(m2 rfl).1 hk
    refine FE.app (p9 hr1) ?_
    refine Xh2 ?_
    exact hr2 s h
   ·obtain⟨w,hw1,hw2⟩:=(m2 rfl).2 hk
    refine FE.app (mc hw1) ?_
    refine Xh2 ?_
    refine⟨fun hw=>?_,fun hw=>?_⟩
    ·obtain⟨r,hr1,hr2⟩:=hw2.1 hw
     refine KR h hr1 fun s' hs'=>?_
     unfold vA
     refine Xh2 ?_
     exact hr2 s' hs'
    ·exact hw2.2 hw s h
  ·refine⟨fun hx=>m1 hx s h,fun hx=>?_⟩
   refine⟨fun hk=>?_,fun hk=>?_⟩
   ·obtain⟨r,hr1,hr2⟩:=(m2 hx).1 hk
    refine FE.app (p9 hr1) ?_
    refine Xh2 ?_
    exact hr2 s h
   ·obtain⟨w,hw1,hw2⟩:=(m2 hx).2 hk
    refine FE.app (mc hw1) ?_
    refine Xh2 ?_
    refine⟨fun hw=>?_,fun hw=>?_⟩
    ·obtain⟨r,hr1,hr2⟩:=hw2.1 hw
     refine KR h hr1 fun s' hs'=>?_
     unfold vA
     refine Xh2 ?_
     exact hr2 s' hs'
    ·exact hw2.2 hw s h
def DU(pf:List aa->Option (List aa×Int))(p:PS)(iA:Bool):Option (aa×Int×PS):=
 bif pW p.st iA then some (zV,11,p)else
 match p.st with
 |[]=>none
 |v::vs=>bif iA then aL (pf v.l_) fun r=>bif r.2 !=0 then some (zV,r.2,p)else some (⟨7,0,⟨[]⟩,r.1⟩,0,{p with st:=vs})
  else some (⟨6,0,⟨[]⟩,v.l_⟩,0,{p with st:=vs})
def lR(p:PS)(iA:Bool):Int×PS:=bif c5 p.st then(11,p)else bif decide (64<=p.st.length)then(15,p)else(0,{p with st:=⟨iA,[]⟩::p.st})
def Ur(s0:ae)(B:Nat)(e:Int)(p:PS)(K:ae->Prop):Prop:=(e≠0->∀s',Sub s0 s'->K s')/\(e=0->∀s' rr' gw,rj s0 s' B p rr' gw->K s')
theorem Ur.at{s0 s:ae}{B:Nat}{e:Int}{p:PS}{K:ae->Prop}{rr:db}{ids:List (Nat×db)}(q:Ur s0 B e p K)(h:rj s0 s B p rr ids):K s:=by
 by_cases he:e=0
 ·exact q.2 he _ _ _ h
 ·exact q.1 he _ h.2.2.1
def Ur.mono{s0:ae}{B:Nat}{e:Int}{p:PS}{K K':ae->Prop}(q:Ur s0 B e p K)(h:∀s',K s'->K' s'):Ur s0 B e p K':=⟨fun he s' hs=>h _ (q.1 he s' hs),fun he s' rr' gw hs=>h _ (q.2 he s' rr' gw hs)⟩
def UT{pf:List aa->Option (List aa×Int)}(hpf:wW pf){s0 s:ae}{B:Nat}{p:PS}{rr:db}{ids:List (Nat×db)}(h:rj s0 s B p rr ids)(bP:p.st.length<=64){iA:Bool}{Q:List AV->ae->Prop}
 (hm:ok (DU pf p iA) fun r=>Ur s0 B r.2.1 r.2.2 (Q [vA r.1,.int .i64 r.2.1])):FN prog 119 [.ref B 0,.bool iA] s Q:=by
 unfold DU at hm
 refine Wp hpf h bP (fun hb=>?_) (fun v vs dQ hd hb s' rr' gw hs'=>?_) (fun v vs dQ hd hb=>?_)
 ·rw[hb,cond_true,bK]at hm
  exact hm.at h
 ·rw[hb,cond_false,dQ]at hm
  subst hd
  simp only[cond_false,bK]at hm
  exact hm.at hs'
 ·rw[hb,cond_false,dQ]at hm
  subst hd
  simp only[cond_true,kX]at hm
  obtain⟨r,hr,hm⟩:=hm
  refine⟨r,hr,fun he s' hs'=>?_,fun he s' rr' gw hs'=>?_⟩
  ·rw[show(r.2 !=0)=true by simpa using he,cond_true,bK]at hm
   exact hm.1 he s' hs'
  ·rw[show(r.2 !=0)=false by simpa using he,cond_false,bK]at hm
   exact hm.2 rfl s' rr' gw hs'
def K9{s0 s:ae}{B:Nat}{p:PS}{rr:db}{ids:List (Nat×db)}(h:rj s0 s B p rr ids)(bP:p.st.length<=64){iA:Bool}{Q:List AV->ae->Prop}
 (hm:Ur s0 B (lR p iA).1 (lR p iA).2 (Q [.int .i64 (lR p iA).1])):FN prog 118 [.ref B 0,.bool iA] s Q:=by
 unfold lR at hm
 refine N6 h bP (fun hw=>?_) (fun hw hl=>?_) (fun hw hl s' rr' gw hs'=>?_)
 ·rw[hw,cond_true]at hm
  exact hm.at h
 ·rw[hw,cond_false,decide_eq_true hl,cond_true]at hm
  exact hm.at h
 ·rw[hw,cond_false,decide_eq_false AT,cond_false]at hm
  exact hm.at hs'
def nI(pf:List aa->Option (List aa×Int))(p:PS)(t:aE):Option (aa×Bool×Int×PS):=
 bif t.Kind==0 then some (zV,false,10,p)
 else bif t.Kind==2||t.Kind==4 then some (zV,false,(lR p (t.Kind==4)).1,(lR p (t.Kind==4)).2)
 else bif t.Kind==3||t.Kind==5 then aL (DU pf p (t.Kind==5)) fun r=>some (r.1,r.2.1==0,r.2.1,r.2.2)
 else aL (kR p t) fun r=>bif r.2.1==0&&decide (64<=p.st.length)then some (r.1,false,15,{p with at_:=r.2.2})else some (r.1,r.2.1==0,r.2.1,{p with at_:=r.2.2})
def T0{pf:List aa->Option (List aa×Int)}(hpf:wW pf){s0 s:ae}{B:Nat}{p:PS}{rr:db}{ids:List (Nat×db)}(h:rj s0 s B p rr ids)(bP:p.st.length<=64){t:aE}{Q:List AV->ae->Prop}
 (hm:ok (nI pf p t) fun r=>Ur s0 B r.2.2.1 r.2.2.2 (Q [vA r.1,.bool r.2.1,.int .i64 r.2.2.1])):FN prog 76 [.ref B 0,tA t] s Q:=by
 have hr:room=140737488355328:=rfl
 unfold nI at hm
 refine FO u7 rfl rfl ?_
 rw[nC]
 refine Xh4 ?_
 unfold tA
 cases h0:(t.Kind==0)with
 |true=>
  rw[h0,cond_true,bK]at hm
  refine Xh6 h0 ?_
  exact hm.at h
 |false=>
 rw[h0,cond_false]at hm
 cases h2:(t.Kind==2)with
 |true=>
  have h4:(t.Kind==4)=false:=by have:=eq_of_beq h2;rw[this];rfl
  rw[h2,h4,Bool.true_or,cond_true,bK]at hm
  refine Xj1 h0 h2 h4 ?_
  refine K9 h bP (hm.mono fun s' hq=>?_)
  refine Xh2 ?_
  repeat'(first|((with_reducible refine My ?_ ?_);exact rfl)|((with_reducible refine abv ?_ ?_);exact rfl)|simp -implicitDefEqProofs only[go_sem,seval])
  exact hq
 |false=>
 cases h4:(t.Kind==4)with
 |true=>
  rw[h2,h4,Bool.or_true,cond_true,bK]at hm
  refine Xj1 h0 h2 h4 ?_
  refine K9 h bP (hm.mono fun s' hq=>?_)
  refine Xh2 ?_
  repeat'(first|((with_reducible refine My ?_ ?_);exact rfl)|((with_reducible refine abv ?_ ?_);exact rfl)|simp -implicitDefEqProofs only[go_sem,seval])
  exact hq
 |false=>
 rw[h2,h4,Bool.or_false,cond_false]at hm
 cases h3:(t.Kind==3)with
 |true=>
  have h5:(t.Kind==5)=false:=by have:=eq_of_beq h3;rw[this];rfl
  rw[h3,h5,Bool.true_or,cond_true,kX]at hm
  obtain⟨r,hr1,hm⟩:=hm
  rw[bK]at hm
  refine Xj2 h0 h2 h4 h3 h5 ?_
  refine UT hpf h bP ⟨r,hr1,hm.mono fun s' hq=>?_⟩
  unfold vA
  refine Xh2 ?_
  exact hq
 |false=>
 cases h5:(t.Kind==5)with
 |true=>
  rw[h3,h5,Bool.or_true,cond_true,kX]at hm
  obtain⟨r,hr1,hm⟩:=hm
  rw[bK]at hm
  refine Xj2 h0 h2 h4 h3 h5 ?_
  refine UT hpf h bP ⟨r,hr1,hm.mono fun s' hq=>?_⟩
  unfold vA
  refine Xh2 ?_
  exact hq
 |false=>
 rw[h3,h5,Bool.or_false,cond_false,kX]at hm
 obtain⟨r,hr1,hm⟩:=hm
 refine Xj2 h0 h2 h4 h3 h5 ?_
 refine Nt h bP ⟨r,hr1,fun s' hs'=>?_⟩
 have hB:=hs'.cell
 unfold jU at hB
 unfold vA
 refine Xh5 hB ?_
 cases he:(r.2.1==0)with
 |false=>
  rw[he,Bool.false_and,cond_false,bK]at hm
  refine Xj3 hB he ?_
  exact hm.at hs'
 |true=>
  rw[he,Bool.true_and]at hm
  refine Xj3 hB he ?_
  refine⟨fun hl=>?_,fun hl=>?_⟩
  ·rw[show decide (64<=p.st.length)=true by have:=of_decide_eq_true hl;exact decide_eq_true AT,cond_true,bK]at hm
   exact hm.at hs'
  ·rw[show decide (64<=p.st.length)=false by have:=of_decide_eq_false hl;exact decide_eq_false AT,cond_false,bK]at hm
   exact hm.at hs'
end Go.AB
end
