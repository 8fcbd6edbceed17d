/- A part. -/
import Derived.Shelf.SlSortCmp.WholeK
import Derived.Ground.SlsfProg
import Derived.Test.YtgecakgfnjkkbaaGreatFt17
set_option linter.unusedSimpArgs false
set_option linter.unusedVariables false
section
namespace Go.Proofs
open Go.Shelf
def Tryz.zr:Go.Shelf.Ren:=⟨fun|6=>129|15=>165|14=>164|28=>197|29=>198|20=>189|21=>190|22=>191|23=>192|24=>193|25=>194|26=>195|27=>196|46=>221|47=>222|48=>223|49=>224|50=>225|57=>254|n=>n,fun|22=>23|24=>73|25=>190|3=>3|39=>238|0=>0|53=>254|55=>287|4=>4|46=>280|45=>279|50=>75|5=>5|9=>9|66=>310|70=>250|76=>346|77=>347|n=>n,fun|n=>n⟩
theorem Tryz.Ni:Go.Proofs.SlLaysF0.n6 Tryz.prog Tryz.zr:={
 mixed:=by kernel_rfl
 f6:=⟨Tryz.f129.name,by decide,Tryz.func129.trans (congrArg some (by kernel_rfl))⟩
 f14:=⟨Tryz.f164.name,by decide,Tryz.func164.trans (congrArg some (by kernel_rfl))⟩
 f15:=Tryz.func165.trans (congrArg some (by kernel_rfl))
 f20:=⟨Tryz.f189.name,by decide,Tryz.func189.trans (congrArg some (by kernel_rfl))⟩
 f21:=⟨Tryz.f190.name,by decide,Tryz.func190.trans (congrArg some (by kernel_rfl))⟩
 f22:=⟨Tryz.f191.name,by decide,Tryz.func191.trans (congrArg some (by kernel_rfl))⟩
 f23:=⟨Tryz.f192.name,by decide,Tryz.func192.trans (congrArg some (by kernel_rfl))⟩
 f24:=⟨Tryz.f193.name,by decide,Tryz.func193.trans (congrArg some (by kernel_rfl))⟩
 f25:=⟨Tryz.f194.name,by decide,Tryz.func194.trans (congrArg some (by kernel_rfl))⟩
 f26:=⟨Tryz.f195.name,by decide,Tryz.func195.trans (congrArg some (by kernel_rfl))⟩
 f27:=⟨Tryz.f196.name,by decide,Tryz.func196.trans (congrArg some (by kernel_rfl))⟩
 f28:=Tryz.func197.trans (congrArg some (by kernel_rfl))
 f29:=Tryz.func198.trans (congrArg some (by kernel_rfl))
 f46:=⟨Tryz.f221.name,by decide,Tryz.func221.trans (congrArg some (by kernel_rfl))⟩
 f47:=Tryz.func222.trans (congrArg some (by kernel_rfl))
 f48:=Tryz.func223.trans (congrArg some (by kernel_rfl))
 f49:=⟨Tryz.f224.name,by decide,Tryz.func224.trans (congrArg some (by kernel_rfl))⟩
 f50:=⟨Tryz.f225.name,by decide,Tryz.func225.trans (congrArg some (by kernel_rfl))⟩
 f57:=⟨Tryz.f254.name,by decide,Tryz.func254.trans (congrArg some (by kernel_rfl))⟩
 t0:=Tryz.underlying0
 a0:=Tryz.isAgg0
 z0:=Tryz.sizeOf0
 v0:=Tryz.zeroValue0
 t3:=Tryz.underlying3
 a3:=Tryz.isAgg3
 z3:=Tryz.sizeOf3
 v3:=Tryz.zeroValue3
 t4:=Tryz.underlying4
 a4:=Tryz.isAgg4
 z4:=Tryz.sizeOf4
 v4:=Tryz.zeroValue4
 t5:=Tryz.underlying5
 a5:=Tryz.isAgg5
 z5:=Tryz.sizeOf5
 v5:=Tryz.zeroValue5
 t9:=Tryz.underlying9
 a9:=Tryz.isAgg9
 z9:=Tryz.sizeOf9
 v9:=Tryz.zeroValue9
 t22:=Tryz.underlying23
 a22:=Tryz.isAgg23
 z22:=Tryz.sizeOf23
 v22:=Tryz.zeroValue23
 t25:=Tryz.underlying190
 a25:=Tryz.isAgg190
 z25:=Tryz.sizeOf190
 v25:=Tryz.zeroValue190
 t39:=Tryz.underlying238
 a39:=Tryz.isAgg238
 z39:=Tryz.sizeOf238
 v39:=Tryz.zeroValue238
 t45:=Tryz.underlying279
 a45:=Tryz.isAgg279
 z45:=Tryz.sizeOf279
 v45:=Tryz.zeroValue279
 t46:=Tryz.underlying280
 a46:=Tryz.isAgg280
 z46:=Tryz.sizeOf280
 v46:=Tryz.zeroValue280
 t50:=Tryz.underlying75
 a50:=Tryz.isAgg75
 z50:=Tryz.sizeOf75
 v50:=Tryz.zeroValue75
 t53:=Tryz.underlying254
 a53:=Tryz.isAgg254
 z53:=Tryz.sizeOf254
 v53:=Tryz.zeroValue254
 t55:=Tryz.underlying287
 a55:=Tryz.isAgg287
 z55:=Tryz.sizeOf287
 v55:=Tryz.zeroValue287
 t66:=Tryz.underlying310
 a66:=Tryz.isAgg310
 z66:=Tryz.sizeOf310
 v66:=Tryz.zeroValue310
 t70:=Tryz.underlying250
 a70:=Tryz.isAgg250
 z70:=Tryz.sizeOf250
 v70:=Tryz.zeroValue250
 t76:=Tryz.underlying346
 a76:=Tryz.isAgg346
 z76:=Tryz.sizeOf346
 v76:=Tryz.zeroValue346
 t77:=Tryz.underlying347
 a77:=Tryz.isAgg347
 z77:=Tryz.sizeOf347
 v77:=Tryz.zeroValue347}
end Go.Proofs
end
section
set_option maxRecDepth 4000
namespace Go.AB
open Go
open Go.Proofs.Tryz (prog)
attribute[-go_sem] cy cU bQ cw Nat.add_zero mI cE
structure zn where
 Kind:Int
 aR:Int
 To:Int
 V:ab
 S:bk
instance:aP zn:=⟨8,fun x=>[.int .i64 x.Kind,.int .i64 x.aR,.int .i64 x.To,.int .i64 x.V.Kind,.int .i64 x.V.N,.str x.V.S.b,sF 4 x.V.L,.str x.S.b],(zn.mk 0 0 0 (ab.mk 0 0 (bk.mk []) []) (bk.mk [])),by decide,fun _=>rfl,fun _=>rfl⟩
end Go.AB
end
section
namespace Go.AB
open Go
theorem whn{α:Type}{g:Bool}{z:α}{o:Option α}(hg:g=false):jv g z o=some z:=by simp_all
theorem nT:¬((!true)=true):=by simp
theorem nF:¬(false=true):=by simp
def XO(c:UInt8):Bool:=((((((c.toNat:Int)==0)||((c.toNat:Int)==9))||((c.toNat:Int)==10))||((c.toNat:Int)==12))||((c.toNat:Int)==13))||((c.toNat:Int)==32)
def deB(c:UInt8):Bool:=decide (Lib.indexByte [40,41,60,62,91,93,123,125,47,37] c>=0)
def VA(c:UInt8):Bool:=!XO c&&!deB c
def Gf(c:UInt8):Int:=if(decide ((c.toNat:Int)>=48))&&(decide ((c.toNat:Int)<=57))then(c.toNat:Int) -48 else if(decide ((c.toNat:Int)>=97))&&(decide ((c.toNat:Int)<=102))then(c.toNat:Int) -87 else if(decide ((c.toNat:Int)>=65))&&(decide ((c.toNat:Int)<=70))then(c.toNat:Int) -55 else -1
theorem vq(c:UInt8):jq c=some (XO c):=rfl
theorem IU(c:UInt8):gb c=some (VA c):=by
 unfold gb VA
 rw[vq]
 cases XO c<;>rfl
theorem yi(c:UInt8):iQ c=some (Gf c):=of_decide_eq_true (ml (fun c=>decide (iQ c=some (Gf c))) (by kernel_rfl) c)
theorem Uw(c:UInt8):-1<=Gf c/\Gf c<=15:=of_decide_eq_true (ml (fun c=>decide (-1<=Gf c/\Gf c<=15)) (by kernel_rfl) c)
theorem cZ{b:List UInt8}{j:Nat}{x:UInt8}(h:b[j]? =some x):j<b.length/\ix b (j:Int)=x:=⟨(List.getElem?_eq_some_iff.1 h).1,Rg h⟩
theorem qg{b:List UInt8}{j:Nat}(h:b[j]? =none):b.length<=j:=List.getElem?_eq_none_iff.1 h
theorem xF{n:Nat}(h:n<4611686018427387904):aC ((n:Int)+1)=((n+1:Nat):Int):=by grind [ar]
section
variable(b:List UInt8)
def G7:Nat->Bool->Nat->Nat
 |0,_,j=>j
 |f+1,c,j=>match b[j]? with
  |none=>j
  |some x=>if c then G7 f (((x.toNat:Int)!=10)&&((x.toNat:Int)!=13)) (j+1)else if(x.toNat:Int)==37 then G7 f true (j+1)else if !XO x then j else G7 f false (j+1)
def Hv:Nat->Nat->Nat
 |0,j=>j
 |f+1,j=>match b[j]? with
  |none=>j
  |some x=>if VA x then Hv f (j+1)else j
variable{b}
theorem LH:∀(f:Nat)(c:Bool)(j:Nat),j<=b.length->j<=G7 b f c j/\G7 b f c j<=b.length
 |0,_,j,h=>⟨Nat.le_refl _,h⟩
 |f+1,c,j,h=>by
  rw[G7]
  cases hx:b[j]? with
  |none=>grind
  |some x=>
   have hj:=(cZ hx).1
   have ih:=fun c=>LH f c (j+1) (by omega)
   simp
   split
   ·have:=ih (((x.toNat:Int)!=10)&&((x.toNat:Int)!=13));omega
   ·split
    ·have:=ih true;omega
    ·split
     ·omega
     ·have:=ih false;omega
theorem GX:∀(f:Nat)(j:Nat),j<=b.length->j<=Hv b f j/\Hv b f j<=b.length
 |0,j,h=>⟨Nat.le_refl _,h⟩
 |f+1,j,h=>by
  rw[Hv]
  cases hx:b[j]? with
  |none=>grind
  |some x=>
   have hj:=(cZ hx).1
   have ih:=GX f (j+1) (by omega)
   simp
   split<;>omega
def Ca(b:List UInt8)(j:Nat):Nat:=G7 b b.length false j
theorem adv(hb:b.length<1152921504606846976)(k:Nat)(hk:k<=b.length):pJ b (k:Int)=some (Ca b k:Int):=by
 have hT:=LH (b:=b) b.length false k hk
 generalize hTT:G7 b b.length false k=T at hT
 have hA:Ca b k=T:=hTT
 rw[hA]
 unfold pJ
 refine al (by simp) (MT (z:=if T<b.length then .inr (T:Int)else .inl ()) (Ka (iter_eq (o:=if T<b.length then .inr (T:Int)else .inl ()) (fun(s:Int×Bool)=>∃j f:Nat,s.1=j/\j<=b.length/\b.length -j<=f/\G7 b f s.2 j=T) (fun s=>b.length -s.1.toNat) ⟨k,b.length,rfl,hk,by omega,hTT⟩ (by simp;omega) ?_) (by by_cases h:T<b.length<;>simp[h])) ?_)
 ·rintro⟨a,c⟩ ⟨j,f,e,hj,hf,hs⟩
  have e:a=(j:Int):=e
  subst e
  cases hx:b[j]? with
  |none=>
   have hl:=qg hx
   right
   have:T=j:=by
    cases f with
    |zero=>exact hs.symm
    |succ f=>grind [G7]
   grind
  |some x=>
   obtain⟨hl,hi⟩:=cZ hx
   obtain⟨f,rfl⟩:∃g,f=g+1:=⟨f -1,by omega⟩
   rw[G7,hx]at hs
   simp only at hs
   have hw:=xF (n:=j) (by omega)
   cases c with
   |true=>
    left
    rw[if_pos rfl]at hs
    exact⟨_,aM (by simp;omega) (dv (aD (by omega) (aM rfl rfl)) rfl),⟨j+1,f,hw,by omega,by omega,by grind⟩,by grind⟩
   |false=>
    rw[if_neg (by decide)]at hs
    by_cases h37:((x.toNat:Int)==37)=true
    ·left
     rw[if_pos h37]at hs
     exact⟨_,aM (by simp;omega) (dv (aD (by omega) (al (by decide) (aM (by grind) rfl))) rfl),⟨j+1,f,hw,by omega,by omega,hs⟩,by grind⟩
    ·rw[if_neg h37]at hs
     by_cases hsp:(!XO x)=true
     ·right
      rw[if_pos hsp]at hs
      subst hs
      rw[if_pos hl]
      exact aM (by simp;omega) (dv (aD (by omega) (al (by decide) (al (by grind) (ag (vq _) (aM (by grind) rfl))))) rfl)
     ·left
      rw[if_neg hsp]at hs
      exact⟨_,aM (by simp;omega) (dv (aD (by omega) (al (by decide) (al (by grind) (ag (vq _) (al (by grind) rfl))))) rfl),⟨j+1,f,hw,by omega,by omega,hs⟩,by grind⟩
 ·by_cases h:T<b.length
  ·simp_all
  ·rw[if_neg h,show T=b.length by omega];rfl
def tg(b:List UInt8)(j:Nat):Nat:=Hv b b.length j
theorem Xg(hb:b.length<1152921504606846976)(B:zt)(k:Nat)(last:Bool)(hk:k<=b.length):gx ⟨B,b,(k:Int),last⟩=some (⟨part b (k:Int) (tg b k:Int)⟩,(decide ((tg b k:Int)<(b.length:Int)))||last,⟨B,b,(tg b k:Int),last⟩):=by
 have hT:=GX (b:=b) b.length k hk
 generalize hTT:Hv b b.length k=T at hT
 have hA:tg b k=T:=hTT
 rw[hA]
 refine ey (iter_eq (o:=(⟨B,b,(T:Int),last⟩:ao)) (fun(s:ao)=>∃j f:Nat,s=⟨B,b,(j:Int),last⟩/\j<=b.length/\b.length -j<=f/\Hv b f j=T) (fun s=>b.length -s.at_.toNat) ⟨k,b.length,rfl,hk,by omega,hTT⟩ (by simp;omega) ?_) (aD ?_ rfl)
 ·rintro a ⟨j,f,rfl,hj,hf,hs⟩
  cases hx:b[j]? with
  |none=>
   have hl:=qg hx
   right
   have:T=j:=by
    cases f with
    |zero=>exact hs.symm
    |succ f=>grind [Hv]
   have hd:decide ((j:Int)<(b.length:Int))=false:=by simp;omega
   rw[this]
   simp only[hd,false_implies,OA,V7,aJ,Bool.false_and]
   rfl
  |some x=>
   obtain⟨hl,hi⟩:=cZ hx
   obtain⟨f,rfl⟩:∃g,f=g+1:=⟨f -1,by omega⟩
   rw[Hv,hx]at hs
   simp only at hs
   have hw:=xF (n:=j) (by omega)
   have hd:decide ((j:Int)<(b.length:Int))=true:=by simp;omega
   have hrx:gb (ix b (j:Int))=some (VA x):=by rw[hi];exact IU x
   by_cases hr:VA x=true
   ·rw[if_pos hr]at hs
    left
    refine⟨_,aD (fun _=>⟨by grind,by grind⟩) (ag (by rw[hd,Hm,hrx]) (aM (by grind) rfl)),⟨j+1,f,by grind,by omega,by omega,hs⟩,by grind⟩
   simp_all
 grind
end
def xW(last:Bool):Int:=if last then 10 else 6
theorem MW(B:zt)(b:List UInt8)(k:Int)(last:Bool):cD ⟨B,b,k,last⟩=some (xW last):=by cases last<;>rfl
theorem qy{B:zt}{b:List UInt8}{j:Nat}{last:Bool}(h:b[j]? =none):bN ⟨B,b,(j:Int),last⟩=some (0,false):=by
 have:=qg h
 exact aM (by grind) rfl
theorem eR{B:zt}{b:List UInt8}{j:Nat}{last:Bool}{x:UInt8}(h:b[j]? =some x):bN ⟨B,b,(j:Int),last⟩=some (x,true):=by
 obtain⟨h1,h2⟩:=cZ h
 exact al (by grind) (aD (by grind) (by grind))
theorem wy(last:Bool):xW last≠0:=by cases last<;>decide
def Xq{A:Type}(j n:Nat):(A×Nat)⊕Int->Prop
 |.inl r=>j<r.2/\r.2<=n
 |.inr e=>e≠0
theorem Xq.mono{A:Type}{j n:Nat}:∀{r:(A×Nat)⊕Int},Xq (j+1) n r->Xq j n r
 |.inl _,h=>⟨Nat.lt_of_succ_lt h.1,h.2⟩
 |.inr _,h=>h
def dZ(q:List UInt8×Int)(d:Int):List UInt8×Int:=if q.2<0 then(q.1,d)else(q.1++[iM (aC (aC (16*q.2)+d))],-1)
def oK(q:List UInt8×Int):List UInt8:=if q.2>=0 then q.1++[iM (aC (16*q.2))]else q.1
section
variable(b:List UInt8)(last:Bool)
def Eh:Nat->List UInt8×Int->Nat->(List UInt8×Nat)⊕Int
 |0,_,_=>.inr (xW last)
 |f+1,q,j=>match b[j]? with
  |none=>.inr (xW last)
  |some x=>if(x.toNat:Int)==62 then .inl (oK q,j+1)else if XO x then Eh f q (j+1)else if decide (Gf x<0)then .inr 11 else Eh f (dZ q (Gf x)) (j+1)
variable{b last}
def Hq(q:List UInt8×Int)(j:Nat):Prop:=q.1.length<=j/\-1<=q.2/\q.2<=15
theorem Cs{u:Bool}{o:List UInt8}(c:UInt8)(h:o.length+1<=room):aE ⟨u,true,⟨o⟩⟩ c=some (TE.mk,⟨true,true,⟨o++[c]⟩⟩):=aD rfl (aD h rfl)
theorem Ye{u:Bool}{o:List UInt8}(h:o.length<=room):bP ⟨u,true,⟨o⟩⟩=some (⟨o⟩,⟨u,false,⟨o⟩⟩):=aD ⟨rfl,h⟩ rfl
theorem Ak:∀(f:Nat)(q:List UInt8×Int)(j:Nat),j<=b.length->Xq j b.length (Eh b last f q j)
 |0,q,j,_=>wy last
 |f+1,q,j,hj=>by
  rw[Eh]
  cases hx:b[j]? with
  |none=>exact wy last
  |some x=>
   have hl:=(cZ hx).1
   simp only
   by_cases h1:((x.toNat:Int)==62)=true
   ·rw[if_pos h1];exact⟨by simp,by grind⟩
   ·rw[if_neg h1]
    by_cases h2:XO x=true
    ·rw[if_pos h2];exact(Ak f q (j+1) (by omega)).mono
    ·rw[if_neg h2]
     by_cases h3:(decide (Gf x<0))=true
     ·rw[if_pos h3];exact(by simp:(11:Int)≠0)
     ·rw[if_neg h3];exact(Ak f (dZ q (Gf x)) (j+1) (by omega)).mono
def Pn(r:(List UInt8×Nat)⊕Int)(x:ab×Int×ao):Prop:=match r with
 |.inl r=>x.1=⟨4,0,⟨r.1⟩,[]⟩/\x.2.1=0/\x.2.2.at_=(r.2:Int)
 |.inr e=>x.2.1=e
theorem Y6(hb:b.length<1048576)(u:Bool)(k:Nat)(hk:k<=b.length):∃x,fG ⟨⟨u,true,⟨[]⟩⟩,b,(k:Int),last⟩=some x/\Pn (Eh b last (b.length+1) ([],-1) k) x:=by
 have bX:room=140737488355328:=rfl
 generalize hT:Eh b last (b.length+1) ([],-1) k=T
 unfold fG
 refine eP (fun(s:Int×ao)=>∃(j f:Nat)(u:Bool)(o:List UInt8),s.2=⟨⟨u,true,⟨o⟩⟩,b,(j:Int),last⟩/\j<=b.length/\b.length -j+1<=f/\Hq (o,s.1) j/\Eh b last f (o,s.1) j=T) (fun s=>b.length -s.2.at_.toNat) (Pn T) ⟨k,b.length+1,u,[],rfl,hk,by omega,⟨Nat.zero_le _,by grind,by grind⟩,hT⟩ (by grind) ?_
 rintro⟨h,o2⟩ ⟨j,f,u,o,e,hj,hf,hq,hs⟩
 have e:o2=⟨⟨u,true,⟨o⟩⟩,b,(j:Int),last⟩:=e
 subst e
 obtain⟨f,rfl⟩:∃g,f=g+1:=⟨f -1,by omega⟩
 obtain⟨q1,q2,q3⟩:=hq
 have q1:o.length<=j:=q1
 have q2:-1<=h:=q2
 have q3:h<=15:=q3
 rw[Eh]at hs
 cases hx:b[j]? with
 |none=>
  rw[hx]at hs
  refine⟨_,ag (qy hx) (aM rfl (ag (MW ..) rfl)),?_⟩
  show Pn T _
  rw[<-hs]
  exact rfl
 |some x=>
  obtain⟨hl,hi⟩:=cZ hx
  rw[hx]at hs
  simp only at hs
  have hw:=xF (n:=j) (by omega)
  have hm:b.length -(aC ((j:Int)+1)).toNat<b.length -(j:Int).toNat:=by rw[hw];omega
  by_cases h62:((x.toNat:Int)==62)=true
  ·rw[if_pos h62]at hs
   by_cases hh:h>=0
   ·refine⟨_,ag (eR hx) (al nT (ag (yi x) (dv (aM (by grind) (ag (Cs _ (by omega)) (ag (Ye (by simp;omega)) rfl))) rfl))),?_⟩
    show Pn T _
    rw[<-hs]
    exact⟨by show(⟨4,0,_,_⟩:ab)=_;unfold oK;grind,rfl,hw⟩
   ·refine⟨_,ag (eR hx) (al nT (ag (yi x) (dv (al (by grind) (aM h62 (ag (Ye (by omega)) rfl))) rfl))),?_⟩
    show Pn T _
    rw[<-hs]
    exact⟨by show(⟨4,0,_,_⟩:ab)=_;unfold oK;grind,rfl,hw⟩
  ·rw[if_neg h62]at hs
   have n62:¬((((x.toNat:Int)==62)&&(decide (h>=0)))=true):=by
    have:((x.toNat:Int)==62)=false:=by simpa using h62
    rw[this];simp
   by_cases hsp:XO x=true
   ·rw[if_pos hsp]at hs
    refine⟨_,ag (eR hx) (al nT (ag (yi x) (dv (al n62 (al h62 (ag (vq x) (aM hsp rfl)))) rfl))),⟨j+1,f,u,o,?_,by omega,by omega,⟨by grind,q2,q3⟩,hs⟩,hm⟩
    grind
   ·rw[if_neg hsp]at hs
    by_cases hn:(decide (Gf x<0))=true
    ·rw[if_pos hn]at hs
     refine⟨_,ag (eR hx) (al nT (ag (yi x) (dv (al n62 (al h62 (ag (vq x) (al hsp (aM hn rfl))))) rfl))),?_⟩
     show Pn T _
     rw[<-hs]
     exact rfl
    ·rw[if_neg hn]at hs
     have hx2:=Uw x
     by_cases hh:h<0
     ·refine⟨_,ag (eR hx) (al nT (ag (yi x) (dv (al n62 (al h62 (ag (vq x) (al hsp (al hn (aM (by grind) rfl)))))) rfl))),⟨j+1,f,u,o,?_,by omega,by omega,⟨by grind,hx2.1,hx2.2⟩,?_⟩,hm⟩
      ·grind
      ·unfold dZ at hs
       grind
     ·refine⟨_,ag (eR hx) (al nT (ag (yi x) (dv (al n62 (al h62 (ag (vq x) (al hsp (al hn (al (by grind) (ag (Cs _ (by omega)) rfl))))))) rfl))),⟨j+1,f,true,o++[iM (aC (aC (16*h)+Gf x))],?_,by omega,by omega,⟨?_,by grind,by grind⟩,?_⟩,hm⟩
      ·grind
      ·grind
      ·unfold dZ at hs
       grind
end
section
variable{b:List UInt8}{last:Bool}
end
section
variable(b:List UInt8)(last:Bool)
def xm:Nat->Int->Nat->Int×Nat×Bool
 |0,n,j=>(n,j,false)
 |k+1,n,j=>match b[j]? with
  |none=>(n,j,true)
  |some d=>if(decide ((d.toNat:Int)<48))||(decide ((d.toNat:Int)>55))then(n,j,false)else xm k (8*n+((d.toNat:Int) -48)) (j+1)
def Kz(j:Nat):(List UInt8×Nat)⊕Int:=match b[j]? with
 |none=>.inr (xW last)
 |some c=>
  if(c.toNat:Int)==110 then .inl ([10],j+1)else if(c.toNat:Int)==114 then .inl ([13],j+1)else if(c.toNat:Int)==116 then .inl ([9],j+1)
  else if(c.toNat:Int)==98 then .inl ([8],j+1)else if(c.toNat:Int)==102 then .inl ([12],j+1)else if(c.toNat:Int)==10 then .inl ([],j+1)
  else if(c.toNat:Int)==13 then(match b[j+1]? with
   |none=>if last then .inl ([],j+1)else .inr 6
   |some d=>if(d.toNat:Int)==10 then .inl ([],j+2)else .inl ([],j+1))
  else if(decide ((c.toNat:Int)<48))||(decide ((c.toNat:Int)>55))then .inl ([c],j+1)
  else if(xm b 2 ((c.toNat:Int) -48) (j+1)).2.2&&!last then .inr 6 else .inl ([iM (xm b 2 ((c.toNat:Int) -48) (j+1)).1],(xm b 2 ((c.toNat:Int) -48) (j+1)).2.1)
def xL:Nat->Int->List UInt8->Nat->(List UInt8×Nat)⊕Int
 |0,_,_,_=>.inr (xW last)
 |f+1,deep,out,j=>match b[j]? with
  |none=>.inr (xW last)
  |some c=>
   if(c.toNat:Int)==92 then(match Kz b last (j+1)with
    |.inr e=>.inr e
    |.inl (x,j')=>xL f deep (out++x) j')
   else if(c.toNat:Int)==13 then(match b[j+1]? with
    |none=>if last then xL f deep (out++[10]) (j+1)else .inr 6
    |some d=>if(d.toNat:Int)==10 then xL f deep (out++[10]) (j+2)else xL f deep (out++[10]) (j+1))
   else if(c.toNat:Int)==40 then xL f (deep+1) (out++[c]) (j+1)
   else if(c.toNat:Int)==41 then(if deep -1==0 then .inl (out,j+1)else xL f (deep -1) (out++[c]) (j+1))
   else xL f deep (out++[c]) (j+1)
variable{b last}
theorem RK:∀(k:Nat)(n:Int)(j:Nat),j<=b.length->j<=(xm b k n j).2.1/\(xm b k n j).2.1<=b.length/\(xm b k n j).2.1<=j+k/\((xm b k n j).2.2=true->(xm b k n j).2.1=b.length/\(xm b k n j).2.1<j+k)
 |0,n,j,h=>⟨Nat.le_refl _,h,Nat.le_refl _,fun e=>(by cases e)⟩
 |k+1,n,j,h=>by
  rw[xm]
  cases hx:b[j]? with
  |none=>grind
  |some d=>
   have hl:=(cZ hx).1
   simp
   split
   ·grind
   ·have:=RK k (8*n+(d.toNat -48)) (j+1) (by omega)
    refine⟨by omega,by omega,by omega,fun e=>?_⟩
    have:=this.2.2.2 e
    omega
def okE(j n:Nat)(last:Bool):(List UInt8×Nat)⊕Int->Prop
 |.inl r=>j<r.2/\r.2<=n/\r.1.length<=1
 |.inr e=>e=xW last
theorem mN{j n:Nat}{last:Bool}{c:Prop}[Decidable c]{x y:(List UInt8×Nat)⊕Int}(h1:okE j n last x)(h2:¬c->okE j n last y):okE j n last (if c then x else y):=by grind
theorem Mx(j:Nat)(h:j<=b.length):okE j b.length last (Kz b last j):=by
 unfold Kz
 cases hx:b[j]? with
 |none=>exact rfl
 |some c=>
  have hl:=(cZ hx).1
  have k1:∀x,x.length<=1->okE j b.length last (.inl (x,j+1)):=fun x hx=>⟨by simp,by grind,hx⟩
  refine mN (k1 _ (by simp)) fun _=>mN (k1 _ (by simp)) fun _=>mN (k1 _ (by simp)) fun _=>mN (k1 _ (by simp)) fun _=>mN (k1 _ (by simp)) fun _=>mN (k1 _ (by simp)) fun _=>mN ?_ fun _=>mN (k1 _ (by simp)) fun _=>?_
  ·cases hy:b[j+1]? with
   |none=>
    cases last with
    |true=>grind
    |false=>exact rfl
   |some d=>exact mN ⟨by simp,by grind,Nat.zero_le _⟩ fun _=>k1 _ (by simp)
  ·have:=RK (b:=b) 2 (c.toNat -48) (j+1) (by omega)
   by_cases h1:((xm b 2 (c.toNat -48) (j+1)).2.2&&!last)=true
   ·rw[if_pos h1]
    have:last=false:=by grind
    rw[this];exact rfl
   ·rw[if_neg h1]
    exact⟨by grind,this.2.1,by simp⟩
theorem Uy(c:UInt8):(decide (Lib.indexByte [110,114,116,98,102] c>=0))=(((c.toNat:Int)==110)||(((c.toNat:Int)==114)||(((c.toNat:Int)==116)||(((c.toNat:Int)==98)||((c.toNat:Int)==102))))):=of_decide_eq_true (ml (fun c=>decide ((decide (Lib.indexByte [110,114,116,98,102] c>=0))=(((c.toNat:Int)==110)||(((c.toNat:Int)==114)||(((c.toNat:Int)==116)||(((c.toNat:Int)==98)||((c.toNat:Int)==102))))))) (by kernel_rfl) c)
theorem Y7(hb:b.length<1048576){u:Bool}{o:List UInt8}(ho:o.length<1048576)(c:UInt8)(hc:48<=(c.toNat:Int)/\(c.toNat:Int)<=55)(j:Nat)(hj:j<=b.length):
 ∃x,fH ⟨⟨u,true,⟨o⟩⟩,b,(j:Int),last⟩ c=some x/\(if(xm b 2 ((c.toNat:Int) -48) j).2.2&&!last then x.1=false/\x.2.aS=last else x=(true,⟨⟨true,true,⟨o++[iM (xm b 2 ((c.toNat:Int) -48) j).1]⟩⟩,b,((xm b 2 ((c.toNat:Int) -48) j).2.1:Int),last⟩)):=by
 have bX:room=140737488355328:=rfl
 have e0:aC (((iM ((c.toNat:Int) -48)).toNat:Int))=(c.toNat:Int) -48:=by
  have:=of_decide_eq_true (ml (fun c=>decide (48<=(c.toNat:Int)->aC (((iM ((c.toNat:Int) -48)).toNat:Int))=(c.toNat:Int) -48)) (by kernel_rfl) c)
  exact this hc.1
 have dig:∀d:UInt8,¬(((decide ((d.toNat:Int)<48))||(decide ((d.toNat:Int)>55)))=true)->48<=(d.toNat:Int)/\(d.toNat:Int)<=55/\aC (((iM ((d.toNat:Int) -48)).toNat:Int))=(d.toNat:Int) -48:=fun d h=>by
  have h1:48<=(d.toNat:Int)/\(d.toNat:Int)<=55:=by simp at h;omega
  exact⟨h1.1,h1.2,of_decide_eq_true (ml (fun c=>decide (48<=(c.toNat:Int)->aC (((iM ((c.toNat:Int) -48)).toNat:Int))=(c.toNat:Int) -48)) (by kernel_rfl) d) h1.1⟩
 generalize hT:xm b 2 ((c.toNat:Int) -48) j=T
 unfold fH
 rw[e0]
 refine uX (fun(r:(Int×ao)⊕(Bool×ao))=>(r=.inl (T.1,⟨⟨u,true,⟨o⟩⟩,b,(T.2.1:Int),last⟩)/\T.2.2=false)\/(T.2.2=true/\(if last then r=.inr (true,⟨⟨true,true,⟨o++[iM T.1]⟩⟩,b,(T.2.1:Int),last⟩)else∃x,r=.inr (false,x)/\x.aS=last))) (My (fun(r:(Int×ao)⊕(Bool×ao))=>(r=.inl (T.1,⟨⟨u,true,⟨o⟩⟩,b,(T.2.1:Int),last⟩)/\T.2.2=false)\/(T.2.2=true/\(if last then r=.inr (true,⟨⟨true,true,⟨o++[iM T.1]⟩⟩,b,(T.2.1:Int),last⟩)else∃x,r=.inr (false,x)/\x.aS=last))) (eP (fun(s:Int×Int×ao)=>∃(i k:Nat),s.2.2=⟨⟨u,true,⟨o⟩⟩,b,(i:Int),last⟩/\i<=b.length/\k<=2/\s.2.1=2 -(k:Int)/\0<=s.1/\s.1<=511/\s.1<8^(3 -k)/\xm b k s.1 i=T) (fun s=>(2 -s.2.1).toNat)
  (fun(r:(Int×ao)⊕(Bool×ao))=>(r=.inl (T.1,⟨⟨u,true,⟨o⟩⟩,b,(T.2.1:Int),last⟩)/\T.2.2=false)\/(T.2.2=true/\(if last then r=.inr (true,⟨⟨true,true,⟨o++[iM T.1]⟩⟩,b,(T.2.1:Int),last⟩)else∃x,r=.inr (false,x)/\x.aS=last)))
  ⟨j,2,rfl,hj,Nat.le_refl _,rfl,by grind,by grind,by grind,hT⟩ (by grind) (by
    rintro⟨n,q,o7⟩ ⟨i,k,e,hi,hk,eq,n0,n1,n2,hs⟩
    have e:o7=⟨⟨u,true,⟨o⟩⟩,b,(i:Int),last⟩:=e
    have eq:q=2 -(k:Int):=eq
    subst e;subst eq
    have n0:0<=n:=n0
    have n1:n<=511:=n1
    have hs:xm b k n i=T:=hs
    cases k with
    |zero=>
     rw[xm]at hs
     grind
    |succ k=>
     rw[xm]at hs
     have hlt:(decide (2 -((k+1:Nat):Int)<2))=true:=by simp;omega
     cases hx:b[i]? with
     |none=>
      rw[hx]at hs
      subst hs
      cases last with
      |true=>exact⟨_,aM hlt (ag (qy hx) (aM rfl (aM rfl (ag (Cs _ (by omega)) rfl)))),.inr ⟨rfl,by grind⟩⟩
      |false=>exact⟨_,aM hlt (ag (qy hx) (aM rfl (al nF rfl))),.inr ⟨rfl,by grind⟩⟩
     |some d=>
      obtain⟨hl,_⟩:=cZ hx
      rw[hx]at hs
      simp only at hs
      by_cases hd:((decide ((d.toNat:Int)<48))||(decide ((d.toNat:Int)>55)))=true
      ·rw[if_pos hd]at hs
       subst hs
       exact⟨_,aM hlt (ag (eR hx) (al nT (aM hd rfl))),.inl ⟨rfl,rfl⟩⟩
      ·rw[if_neg hd]at hs
       obtain⟨d1,d2,d3⟩:=dig d hd
       have hw:=xF (n:=i) (by omega)
       have n2:n<8^(3 -(k+1)):=n2
       have hp:n<64/\8*n+((d.toNat:Int) -48)<8^(3 -k):=by
        rcases(show k=0\/k=1 by omega)with rfl|rfl
        ·grind
        ·grind
       have w8:aC ((aC (8*n))+(aC (((iM ((d.toNat:Int) -48)).toNat:Int))))=8*n+((d.toNat:Int) -48):=by rw[d3,ar (n:=8*n) (by omega) (by omega),ar (by omega) (by omega)]
       have wk:aC (2 -((k+1:Nat):Int)+1)=2 -(k:Int):=by rw[ar (by omega) (by omega)];omega
       refine⟨_,aM hlt (ag (eR hx) (al nT (al hd rfl))),⟨i+1,k,?_,by omega,by omega,wk,by grind,by grind,by grind,by grind⟩,?_⟩
       ·grind
       grind)) ?_) ?_
 ·rintro z (⟨rfl,h2⟩|⟨h2,h3⟩)
  ·simp_all
  ·cases last with
   |true=>simp_all
   |false=>
    rw[if_neg nF]at h3
    obtain⟨x,rfl,hx⟩:=h3
    simp_all
 ·rintro z (⟨rfl,h2⟩|⟨h2,h3⟩)
  ·refine⟨_,ag (Cs _ (by omega)) rfl,?_⟩
   grind
  ·cases last with
   |true=>simp_all
   |false=>
    rw[if_neg nF]at h3
    obtain⟨x,rfl,hx⟩:=h3
    simp_all
end
section
variable{b:List UInt8}{last:Bool}
theorem Xf(u:Bool)(o:List UInt8)(hb:b.length<1048576)(c:UInt8)(hc:((c.toNat:Int)==13)=true)(j:Nat)(hj:j<=b.length):
 da ⟨⟨u,true,⟨o⟩⟩,b,(j:Int),last⟩ c=some (match b[j]? with
  |none=>(last,⟨⟨u,true,⟨o⟩⟩,b,(j:Int),last⟩)
  |some d=>(true,⟨⟨u,true,⟨o⟩⟩,b,if(d.toNat:Int)==10 then((j+1:Nat):Int)else(j:Int),last⟩)):=by
 refine al (by grind) ?_
 cases hx:b[j]? with
 |none=>exact ag (qy hx) (ey (al (by simp) rfl) rfl)
 |some d=>
  by_cases hd:((d.toNat:Int)==10)=true
  ·refine ag (eR hx) (ey (aM (by grind) rfl) ?_)
   grind [aC,xF]
  ·simp[hd]
   exact ag (eR hx) (ey (al (by grind) rfl) rfl)
theorem IT(hb:b.length<1048576){u:Bool}{o:List UInt8}(ho:o.length<1048576)(j:Nat){c y:UInt8}{i:Int}(hx:b[j]? =some c)(e:Lib.indexByte [110,114,116,98,102] c=i)(h0:0<=i/\i<5)(hy:ix ([10,13,9,8,12]:List UInt8) i=y):
 c9 ⟨⟨u,true,⟨o⟩⟩,b,(j:Int),last⟩=some (true,⟨⟨true,true,⟨o++[y]⟩⟩,b,((j+1:Nat):Int),last⟩):=by
 have bX:room=140737488355328:=rfl
 refine ag (eR hx) (al nT (ag (show dm _ c=some i by rw[<-e];rfl) (aM (by grind) (aD h0 (ag (Cs _ (by omega)) ?_)))))
 grind [ix,aC,xF]
theorem JQ{c:UInt8}{n:Nat}(hn:n<256)(h:((c.toNat:Int)==(n:Int))=true):c=UInt8.ofNat n:=by
 have h:=by simpa using h
 have h:c.toNat=n:=by omega
 rw[<-h];simp
def leR(b:List UInt8)(last:Bool)(o:List UInt8)(r:(List UInt8×Nat)⊕Int)(x:Bool×ao):Prop:=match r with
 |.inr _=>x.1=false/\x.2.aS=last
 |.inl r=>∃u',x=(true,⟨⟨u',true,⟨o++r.1⟩⟩,b,(r.2:Int),last⟩)
theorem UN(hb:b.length<1048576){u:Bool}{o:List UInt8}(ho:o.length<1048576)(j:Nat)(hj:j<=b.length):
 ∃x,c9 ⟨⟨u,true,⟨o⟩⟩,b,(j:Int),last⟩=some x/\leR b last o (Kz b last j) x:=by
 have bX:room=140737488355328:=rfl
 unfold Kz
 cases hx:b[j]? with
 |none=>
  unfold c9
  exact⟨_,ag (qy hx) (aM rfl rfl),rfl,rfl⟩
 |some c=>
  obtain⟨hl,_⟩:=cZ hx
  have hw:=xF (n:=j) (by omega)
  have Dj:=Uy c
  simp only
  by_cases n1:((c.toNat:Int)==110)=true
  ·rw[if_pos n1]
   obtain rfl:c=110:=JQ (n:=110) (by decide) n1
   exact⟨_,IT hb ho j hx (i:=0) rfl (by decide) rfl,true,rfl⟩
  rw[if_neg n1]
  by_cases n2:((c.toNat:Int)==114)=true
  ·rw[if_pos n2]
   obtain rfl:c=114:=JQ (n:=114) (by decide) n2
   exact⟨_,IT hb ho j hx (i:=1) rfl (by decide) rfl,true,rfl⟩
  rw[if_neg n2]
  by_cases n3:((c.toNat:Int)==116)=true
  ·rw[if_pos n3]
   obtain rfl:c=116:=JQ (n:=116) (by decide) n3
   exact⟨_,IT hb ho j hx (i:=2) rfl (by decide) rfl,true,rfl⟩
  rw[if_neg n3]
  by_cases n4:((c.toNat:Int)==98)=true
  ·rw[if_pos n4]
   obtain rfl:c=98:=JQ (n:=98) (by decide) n4
   exact⟨_,IT hb ho j hx (i:=3) rfl (by decide) rfl,true,rfl⟩
  rw[if_neg n4]
  by_cases n5:((c.toNat:Int)==102)=true
  ·rw[if_pos n5]
   obtain rfl:c=102:=JQ (n:=102) (by decide) n5
   exact⟨_,IT hb ho j hx (i:=4) rfl (by decide) rfl,true,rfl⟩
  rw[if_neg n5]
  have hi:¬(decide (Lib.indexByte [110,114,116,98,102] c>=0))=true:=by
   rw[Dj]
   simp only[Bool.or_eq_true,not_or]
   exact⟨n1,n2,n3,n4,n5⟩
  have start:∀{r:Option (Bool×ao)},(if((decide ((c.toNat:Int)>=48))&&(decide ((c.toNat:Int)<=55)))=true then bn (fH ⟨⟨u,true,⟨o⟩⟩,b,((j+1:Nat):Int),last⟩ c) fun r4=>some (r4.1,r4.2)
   else if(((c.toNat:Int)==10)||((c.toNat:Int)==13))=true then bn (da ⟨⟨u,true,⟨o⟩⟩,b,((j+1:Nat):Int),last⟩ c) fun r5=>some (r5.1,r5.2)
   else bn (aE ⟨u,true,⟨o⟩⟩ c) fun r6=>some (true,(⟨r6.2,b,((j+1:Nat):Int),last⟩:ao)))=r->c9 ⟨⟨u,true,⟨o⟩⟩,b,(j:Int),last⟩=r:=fun h=>by
   unfold c9
   refine ag (eR hx) (al nT (ag (show dm _ c=some _ from rfl) (al hi ?_)))
   grind
  by_cases n10:((c.toNat:Int)==10)=true
  ·rw[if_pos n10]
   have hc:(c.toNat:Int)=10:=by simpa using n10
   refine⟨_,start (al (by grind) (aM (by rw[n10];rfl) (ag (aM (by grind) rfl) rfl))),u,?_⟩
   grind
  rw[if_neg n10]
  by_cases n13:((c.toNat:Int)==13)=true
  ·rw[if_pos n13]
   have hc:(c.toNat:Int)=13:=by simpa using n13
   refine⟨_,start (al (by grind) (aM (by grind) (ag (Xf u o hb c n13 (j+1) (by omega)) rfl))),?_⟩
   cases hy:b[j+1]? with
   |none=>
    cases last with
    |true=>exact⟨u,by grind⟩
    |false=>exact⟨rfl,rfl⟩
   |some d=>
    simp only
    by_cases hd:((d.toNat:Int)==10)=true
    ·rw[if_pos hd,if_pos hd]
     exact⟨u,by grind⟩
    ·rw[if_neg hd,if_neg hd]
     exact⟨u,by grind⟩
  rw[if_neg n13]
  by_cases no:((decide ((c.toNat:Int)<48))||(decide ((c.toNat:Int)>55)))=true
  ·rw[if_pos no]
   exact⟨_,start (al (by grind) (al (by grind) (ag (Cs _ (by omega)) rfl))),true,rfl⟩
  ·rw[if_neg no]
   have hc:48<=(c.toNat:Int)/\(c.toNat:Int)<=55:=by simp at no;omega
   obtain⟨x,h1,h2⟩:=Y7 (last:=last) hb (u:=u) ho c hc (j+1) (by omega)
   refine⟨x,start (aM (by simp;omega) (ag h1 rfl)),?_⟩
   by_cases h:((xm b 2 ((c.toNat:Int) -48) (j+1)).2.2&&!last)=true
   ·rw[if_pos h]at h2⊢
    exact h2
   ·rw[if_neg h]at h2⊢
    exact⟨true,h2⟩
theorem adw(hb:b.length<1048576)(u:Bool)(k:Nat)(hk:k<=b.length):∃x,gw ⟨⟨u,true,⟨[]⟩⟩,b,(k:Int),last⟩=some x/\Pn (xL b last (b.length+1) 1 [] k) x:=by
 have bX:room=140737488355328:=rfl
 generalize hT:xL b last (b.length+1) 1 [] k=T
 unfold gw
 refine eP (fun(s:Int×ao)=>∃(j f:Nat)(u:Bool)(o:List UInt8),s.2=⟨⟨u,true,⟨o⟩⟩,b,(j:Int),last⟩/\j<=b.length/\b.length -j+1<=f/\o.length<=j/\1<=s.1/\s.1<=(j:Int)+1/\xL b last f s.1 o j=T) (fun s=>b.length -s.2.at_.toNat) (Pn T) ⟨k,b.length+1,u,[],rfl,hk,by omega,Nat.zero_le _,by grind,by grind,hT⟩ (by grind) ?_
 rintro⟨deep,o2⟩ ⟨j,f,u,o,e,hj,hf,ho,d1,d2,hs⟩
 have e:o2=⟨⟨u,true,⟨o⟩⟩,b,(j:Int),last⟩:=e
 subst e
 have d1:1<=deep:=d1
 have d2:deep<=(j:Int)+1:=d2
 have hs:xL b last f deep o j=T:=hs
 obtain⟨f,rfl⟩:∃g,f=g+1:=⟨f -1,by omega⟩
 rw[xL]at hs
 cases hx:b[j]? with
 |none=>
  rw[hx]at hs
  refine⟨_,ag (qy hx) (aM rfl (ag (MW ..) rfl)),?_⟩
  show Pn T _
  rw[<-hs]
  exact rfl
 |some c=>
  obtain⟨hl,hi⟩:=cZ hx
  rw[hx]at hs
  simp only at hs
  have hw:=xF (n:=j) (by omega)
  have adH:∀j':Nat,j<j'->b.length -((j':Nat):Int).toNat<b.length -(j:Int).toNat:=fun j' h=>by omega
  have put:∀(d:Int)(c:UInt8)(j':Nat),1<=d->d<=(j':Int)+1->j<j'->j'<=b.length->xL b last f d (o++[c]) j'=T->
   ∃t,(if(d==0)=true then bn (bP ⟨u,true,⟨o⟩⟩) fun r22=>some (Sum.inr ((⟨4,0,r22.1,[]⟩:ab),(0:Int),(⟨r22.2,b,((j':Nat):Int),last⟩:ao)))else bn (aE ⟨u,true,⟨o⟩⟩ c) fun r23=>some (Sum.inl (d,(⟨r23.2,b,((j':Nat):Int),last⟩:ao))))=some (Sum.inl t)/\
    (∃(j f:Nat)(u:Bool)(o:List UInt8),t.2=⟨⟨u,true,⟨o⟩⟩,b,(j:Int),last⟩/\j<=b.length/\b.length -j+1<=f/\o.length<=j/\1<=t.1/\t.1<=(j:Int)+1/\xL b last f t.1 o j=T)/\b.length -t.2.at_.toNat<b.length -(j:Int).toNat:=fun d c j' h1 h2 h3 h4 h5=>by
   have hd:¬(d==0)=true:=by simp;omega
   refine⟨_,al hd (ag (Cs _ (by omega)) rfl),⟨j',f,true,o++[c],rfl,h4,by omega,by simp;omega,h1,h2,h5⟩,adH j' h3⟩
  by_cases n92:((c.toNat:Int)==92)=true
  ·rw[if_pos n92]at hs
   obtain⟨x,x1,x2⟩:=UN (last:=last) hb (u:=u) (o:=o) (by omega) (j+1) (by omega)
   have hp:=Mx (b:=b) (last:=last) (j+1) (by omega)
   cases hes:Kz b last (j+1)with
   |inr e=>
    rw[hes]at hs x2 hp
    simp only at hs
    obtain⟨y1,y2⟩:=x2
    have hp:e=xW last:=hp
    have ho2:cD x.2=some (xW last):=by rw[<-y2];obtain⟨_,⟨_,_,_,l⟩⟩:=x;cases l<;>rfl
    refine⟨_,ag (eR hx) (al nT (dv (aM n92 (ag (by grind) (aM (by rw[y1];rfl) (ag ho2 rfl)))) rfl)),?_⟩
    show Pn T _
    rw[<-hs,hp]
    exact rfl
   |inl r=>
    rw[hes]at hs x2 hp
    simp only at hs
    obtain⟨u',rfl⟩:=x2
    obtain⟨p1,p2,p3⟩:=hp
    refine⟨_,ag (eR hx) (al nT (dv (aM n92 (ag (by show c9 ⟨_,b,aC ((j:Int)+1),last⟩=_;rw[hw];exact x1) (al nT rfl))) rfl)),⟨r.2,f,u',o++r.1,rfl,p2,by omega,by simp;omega,d1,by omega,hs⟩,adH r.2 (by omega)⟩
  ·rw[if_neg n92]at hs
   by_cases n13:((c.toNat:Int)==13)=true
   ·rw[if_pos n13]at hs
    have wO:=Xf (last:=last) u o hb c n13 (j+1) (by omega)
    cases hy:b[j+1]? with
    |none=>
     rw[hy]at hs wO
     cases last with
     |false=>
      refine⟨_,ag (eR hx) (al nT (dv (al n92 (aM n13 (ag (by show da ⟨_,b,aC ((j:Int)+1),_⟩ c=_;rw[hw];exact wO) (aM rfl (ag (MW ..) rfl))))) rfl)),?_⟩
      show Pn T _
      rw[<-hs]
      exact rfl
     |true=>
      obtain⟨t,q1,q2,q3⟩:=put deep 10 (j+1) d1 (by omega) (by omega) (by omega) hs
      exact⟨.inl t,ag (eR hx) (al nT (dv (al n92 (aM n13 (ag (by show da ⟨_,b,aC ((j:Int)+1),_⟩ c=_;rw[hw];exact wO) (al nT rfl)))) q1)),q2,q3⟩
    |some d=>
     rw[hy]at hs wO
     simp only at hs wO
     have hl2:=(cZ hy).1
     by_cases hd:((d.toNat:Int)==10)=true
     ·rw[if_pos hd]at hs wO
      obtain⟨t,q1,q2,q3⟩:=put deep 10 (j+2) d1 (by omega) (by omega) (by omega) hs
      exact⟨.inl t,ag (eR hx) (al nT (dv (al n92 (aM n13 (ag (by show da ⟨_,b,aC ((j:Int)+1),_⟩ c=_;rw[hw];exact wO) (al nT rfl)))) q1)),q2,q3⟩
     ·rw[if_neg hd]at hs wO
      obtain⟨t,q1,q2,q3⟩:=put deep 10 (j+1) d1 (by omega) (by omega) (by omega) hs
      exact⟨.inl t,ag (eR hx) (al nT (dv (al n92 (aM n13 (ag (by show da ⟨_,b,aC ((j:Int)+1),_⟩ c=_;rw[hw];exact wO) (al nT rfl)))) q1)),q2,q3⟩
   ·rw[if_neg n13]at hs
    by_cases n40:((c.toNat:Int)==40)=true
    ·rw[if_pos n40]at hs
     have wd:aC (deep+1)=deep+1:=ar (by omega) (by omega)
     obtain⟨t,q1,q2,q3⟩:=put (deep+1) c (j+1) (by omega) (by omega) (by omega) (by omega) hs
     rw[<-hw,<-wd]at q1
     exact⟨.inl t,ag (eR hx) (al nT (dv (al n92 (al n13 (aM n40 rfl))) q1)),q2,q3⟩
    ·rw[if_neg n40]at hs
     by_cases n41:((c.toNat:Int)==41)=true
     ·rw[if_pos n41]at hs
      have wd:aC (deep -1)=deep -1:=ar (by omega) (by omega)
      by_cases h0:(deep -1==0)=true
      ·rw[if_pos h0]at hs
       refine⟨_,ag (eR hx) (al nT (dv (al n92 (al n13 (al n40 (aM n41 rfl)))) (aM (by grind) (ag (Ye (by omega)) rfl)))),?_⟩
       show Pn T _
       rw[<-hs]
       exact⟨rfl,rfl,hw⟩
      ·rw[if_neg h0]at hs
       obtain⟨t,q1,q2,q3⟩:=put (deep -1) c (j+1) (by grind) (by omega) (by omega) (by omega) hs
       rw[<-hw,<-wd]at q1
       exact⟨.inl t,ag (eR hx) (al nT (dv (al n92 (al n13 (al n40 (aM n41 rfl)))) q1)),q2,q3⟩
     ·rw[if_neg n41]at hs
      obtain⟨t,q1,q2,q3⟩:=put deep c (j+1) d1 (by omega) (by omega) (by omega) hs
      rw[<-hw]at q1
      exact⟨.inl t,ag (eR hx) (al nT (dv (al n92 (al n13 (al n40 (al n41 rfl)))) q1)),q2,q3⟩
end
section
variable{b:List UInt8}{last:Bool}
end
section
variable(w:List UInt8)
def Pp:Nat->List UInt8->Nat->List UInt8⊕Int
 |0,out,_=>.inl out
 |f+1,out,i=>match w[i]? with
  |none=>.inl out
  |some c=>if(c.toNat:Int)==35 then(match w[i+2]? with
    |none=>.inr 17
    |some y=>match w[i+1]? with
     |none=>.inr 17
     |some x=>if decide (Gf x<0)||decide (Gf y<0)then .inr 17 else Pp f (out++[iM (aC (aC (16*Gf x)+Gf y))]) (i+3))
   else Pp f (out++[c]) (i+1)
def naF(o:List UInt8):ab×Int:=if decide ((o.length:Int)>127)||decide (Lib.indexByte o 0>=0)then(⟨0,0,⟨[]⟩,[]⟩,17)else(⟨5,0,⟨o⟩,[]⟩,0)
def Po:ab×Int:=match Pp w (w.length+1) [] 0 with
 |.inr e=>(⟨0,0,⟨[]⟩,[]⟩,e)
 |.inl o=>naF o
variable{w}
theorem adu(hb:w.length<1048576):ny ⟨w⟩=some (Po w):=by
 have bX:room=140737488355328:=rfl
 have key:∃x,ny ⟨w⟩=some x/\x=Po w:=by
  unfold ny
  unfold Po
  generalize hT:Pp w (w.length+1) [] 0=T
  refine uX (fun z=>z=T) (My (fun z=>z=T) (eP (fun(s:List UInt8×Int)=>∃(j f:Nat),s.2=(j:Int)/\j<=w.length/\w.length -j+1<=f/\s.1.length<=j/\Pp w f s.1 j=T) (fun s=>w.length -s.2.toNat) _
   ⟨0,w.length+1,rfl,Nat.zero_le _,by omega,Nat.zero_le _,hT⟩ (by grind) ?_) ?_) ?_
  ·rintro⟨o,a⟩ ⟨j,f,e,hj,hf,ho,hs⟩
   have e:a=(j:Int):=e
   subst e
   have ho:o.length<=j:=ho
   have hs:Pp w f o j=T:=hs
   obtain⟨f,rfl⟩:∃g,f=g+1:=⟨f -1,by omega⟩
   rw[Pp]at hs
   cases hx:w[j]? with
   |none=>
    have:=qg hx
    rw[hx]at hs
    exact⟨_,al (by simp;omega) rfl,hs⟩
   |some c=>
    obtain⟨hl,hi⟩:=cZ hx
    rw[hx]at hs
    simp only at hs
    have w1:aC ((j:Int)+1)=((j+1:Nat):Int):=xF (by omega)
    have w2:aC ((j:Int)+2)=((j+2:Nat):Int):=by rw[ar (by omega) (by omega)];rfl
    have w3:aC (((j+2:Nat):Int)+1)=((j+3:Nat):Int):=xF (by omega)
    have gd:(decide ((j:Int)<(w.length:Int)))=true:=by simp;omega
    have np:0<=(j:Int)/\(j:Int)<w.length:=by omega
    simp only[hi,w1,w2]
    by_cases n35:((c.toNat:Int)==35)=true
    ·rw[if_pos n35]at hs
     cases hy:w[j+2]? with
     |none=>
      have hl2:=qg hy
      rw[hy]at hs
      have dg:decide (((j+2:Nat):Int)>=(w.length:Int))=true:=by simp;omega
      simp_all
     |some y=>
      obtain⟨hl2,hi2⟩:=cZ hy
      rw[hy]at hs
      obtain⟨x,hz⟩:∃x,w[j+1]? =some x:=⟨w[j+1],List.getElem?_eq_getElem (by omega)⟩
      obtain⟨hl3,hi3⟩:=cZ hz
      rw[hz]at hs
      simp only at hs
      have dg:decide (((j+2:Nat):Int)>=(w.length:Int))=false:=by simp;omega
      simp only[hi2,hi3,dg,Bool.false_or,Bool.not_false]
      by_cases hxn:Gf x<0
      ·rw[if_pos (by grind)]at hs
       exact⟨_,aM gd (aD np (dv (aM n35 (aD (by omega) (ag (yi x) (aD (by omega) (ag (whn (by grind)) (aM (by simp;omega) rfl)))))) rfl)),hs⟩
      ·have dx:decide (Gf x<0)=false:=by simpa using hxn
       by_cases hyn:Gf y<0
       ·rw[if_pos (by grind)]at hs
        exact⟨_,aM gd (aD np (dv (aM n35 (aD (by omega) (ag (yi x) (aD (by omega) (ag (by rw[dx];exact yi y) (aM (by grind) rfl)))))) rfl)),hs⟩
       ·rw[if_neg (by simp;omega)]at hs
        refine⟨_,aM gd (aD np (dv (aM n35 (aD (by omega) (ag (yi x) (aD (by omega) (ag (by rw[dx];exact yi y) (al (by simp;omega) (aD (by omega) (ag (yi x) (aD (by omega) (ag (yi y) rfl)))))))))) (aD (by simp;omega) rfl))),⟨j+3,f,w3,by omega,by omega,by grind,hs⟩,?_⟩
        grind
    ·rw[if_neg n35]at hs
     refine⟨_,aM gd (aD np (dv (al n35 rfl) (aD (by simp;omega) rfl))),⟨j+1,f,w1,by omega,by omega,by grind,hs⟩,?_⟩
     grind
  ·rintro z rfl
   cases z with
   |inl o=>simp_all
   |inr e=>simp_all
  ·rintro z rfl
   cases z with
   |inr e=>simp_all
   |inl o=>
    show∃x,(bn (jv (!(decide ((o.length:Int)>127))) 0 (eX o 0)) fun r22=>_)=some x/\x=naF o
    unfold naF
    cases hd:decide ((o.length:Int)>127)with
    |true=>simp_all
    |false=>
     rw[Bool.not_false,Bool.false_or]
     by_cases h:(decide (Lib.indexByte o 0>=0))=true
     ·exact⟨_,ag (show jv true 0 (eX o 0)=some _ from rfl) (aM h rfl),by rw[if_pos h]⟩
     ·exact⟨_,ag (show jv true 0 (eX o 0)=some _ from rfl) (al h rfl),by rw[if_neg h]⟩
 grind
end
def pj:List UInt8->List UInt8×Option (List UInt8)
 |[]=>([],none)
 |c::l=>if(c.toNat:Int)==46 then([],some l)else(c::(pj l).1,(pj l).2)
theorem FD:∀(l:List UInt8),(match(pj l).2 with
 |none=>Lib.indexByte l 46=-1/\(pj l).1=l
 |some r=>Lib.indexByte l 46=((pj l).1.length:Int)/\l=(pj l).1++46::r)
 |[]=>⟨rfl,rfl⟩
 |c::l=>by
  have e:=of_decide_eq_true (ml (fun c=>decide ((c==46)=(c.toNat==46))) (by kernel_rfl) c)
  have ih:=FD l
  rw[pj,Lib.indexByte]
  grind
theorem P2(l:List UInt8):(pj l).1.length+((pj l).2.getD []).length<=l.length:=by
 have:=FD l
 grind
def CA:Nat->List UInt8->Int
 |0,_=>0
 |k+1,l=>(match l with
  |[]=>0
  |c::l=>((c.toNat:Int) -48)*10^k+CA k l)
theorem Na:∀(k:Nat)(l:List UInt8),l.all e9=true->0<=CA k l/\CA k l<10^k
 |0,_,_=>⟨Int.le_refl _,by show 0<1;decide⟩
 |k+1,[],_=>⟨Int.le_refl _,by exact Int.pow_pos (by simp)⟩
 |k+1,c::l,h=>by
  rw[List.all_cons,Bool.and_eq_true]at h
  have ih:=Na k l h.2
  have hd:=by have:=h.1;unfold e9 at this;simp at this;omega
  show 0<=(c.toNat -48)*10^k+CA k l/\(c.toNat -48)*10^k+CA k l<_
  have e:10^(k+1)=10*10^k:=by grind
  have h1:0<=((c.toNat:Int) -48)*10^k:=Int.mul_nonneg (by omega) (by omega)
  have h2:((c.toNat:Int) -48)*10^k<=9*10^k:=Int.mul_le_mul_of_nonneg_right (by omega) (by omega)
  omega
theorem A2:∀(l:List UInt8)(n:Int),0<=n->l.all e9=true->l.length<=6->(n+1)*10^l.length<=1000000->mF l (n,false)=(n*10^l.length+CA l.length l,0)
 |[],n,_,_,_,_=>by show(n,(0:Int))=(n*1+0,0);grind
 |c::l,n,h0,h,hl,hb=>by
  rw[List.all_cons,Bool.and_eq_true]at h
  have hd:48<=(c.toNat:Int)/\(c.toNat:Int)<=57:=by have:=h.1;unfold e9 at this;simp at this;omega
  have hp:(0:Int)<10^l.length:=Int.pow_pos (by decide)
  have e:(10:Int)^(l.length+1)=10*10^l.length:=by rw[Int.pow_succ,Int.mul_comm]
  rw[List.length_cons,e]at hb
  have hb':(10*n+((c.toNat:Int) -48)+1)*10^l.length<=1000000:=by
   refine Int.le_trans (Int.mul_le_mul_of_nonneg_right (c:=10^l.length) (show 10*n+((c.toNat:Int) -48)+1<=(n+1)*10 by omega) (by omega)) ?_
   rw[Int.mul_assoc];exact hb
  have hn:n<=1000000:=by
   have:n+1<=(n+1)*(10*10^l.length):=by
    have:(n+1)*1<=(n+1)*(10*10^l.length):=Int.mul_le_mul_of_nonneg_left (by omega) (by omega)
    omega
   omega
  have hs:ql (n,false) c=(10*n+((c.toNat:Int) -48),false):=by
   unfold ql
   have:decide (n>(2147483647 -((c.toNat:Int) -48)).tdiv 10)=false:=by
    rw[decide_eq_false_iff_not,Int.tdiv_eq_ediv_of_nonneg (by omega)]
    omega
   simp[this]
  rw[mF,if_pos h.1,hs,A2 l _ (by omega) h.2 (by grind) hb',List.length_cons,e]
  grind [CA,Int.add_mul,Int.mul_comm,Int.mul_assoc]
theorem M9:∀(k:Nat)(l:List UInt8),CA k ((l++List.replicate k 48).take k)=CA k l
 |0,_=>rfl
 |k+1,[]=>by
  have z:∀k m,CA k (List.replicate m 48)=0:=by
   intro k
   induction k with
   |zero=>intro m;rfl
   |succ k ih=>
    intro m
    cases m with
    |zero=>rfl
    |succ m=>grind [CA,List.replicate]
  grind
 |k+1,c::l=>by
  show(c.toNat -48)*10^k+CA k ((l++List.replicate (k+1) 48).take k)=(c.toNat -48)*10^k+CA k l
  rw[<-M9 k l,List.replicate_succ',<-List.append_assoc,List.take_append_of_le_length (by simp)]
def U4(sg:Int)(wh:List UInt8)(ro:Option (List UInt8)):ab×Int:=
 if(wh.length+(ro.getD []).length==0)||!wh.all e9||!(ro.getD []).all e9 then(⟨0,0,⟨[]⟩,[]⟩,11)
 else if(mF wh (0,false)).2 !=0 then(⟨0,0,⟨[]⟩,[]⟩,5)
 else match ro with
  |none=>(⟨2,sg*(mF wh (0,false)).1,⟨[]⟩,[]⟩,0)
  |some r=>if(mF wh (0,false)).1*1000000+CA 6 r>2147483647000000 then(⟨0,0,⟨[]⟩,[]⟩,5)else(⟨3,sg*((mF wh (0,false)).1*1000000+CA 6 r),⟨[]⟩,[]⟩,0)
def Xm(sg:Int)(body:List UInt8):ab×Int:=U4 sg (pj body).1 (pj body).2
def Pq(s:List UInt8):ab×Int:=match s with
 |[]=>Xm 1 []
 |c::r=>if(c.toNat:Int)==45 then Xm (-1) r else if(c.toNat:Int)==43 then Xm 1 r else Xm 1 (c::r)
theorem H7:∀(l:List UInt8)(n:Int)(o:Bool),0<=n->n<=2147483647->l.all e9=true->0<=(mF l (n,o)).1/\(mF l (n,o)).1<=2147483647/\((mF l (n,o)).2=0\/(mF l (n,o)).2=5)
 |[],n,o,h0,h1,_=>by
  rw[mF]
  grind
 |c::l,n,o,h0,h1,h=>by
  rw[List.all_cons,Bool.and_eq_true]at h
  have hd:=by have:=h.1;unfold e9 at this;omega
  rw[mF,if_pos h.1]
  cases hs:ql (n,o) c with
  |mk m p=>
   have hm:0<=m/\m<=2147483647:=by
    unfold ql at hs
    simp at hs
    split at hs
    ·grind
    ·grind
   exact H7 l m p hm.1 hm.2 h.2
theorem Uk(s:List UInt8)(x:UInt8):cM ⟨s⟩ ⟨[x]⟩=some (match s with
 |[]=>false
 |c::_=>c==x):=by
 unfold cM cL
 cases s with
 |nil=>simp_all
 |cons c r=>
  have e1:decide ((((⟨c::r⟩:bk).b.length):Int)>=(((⟨[x]⟩:bk).b.length:Nat)))=true:=by grind
  have e2:(bk.mk (part (c::r) 0 ((((⟨[x]⟩:bk).b.length:Nat))))).b=[c]:=by rfl
  simp_all
theorem Ym(body:List UInt8)(hb:body.length<1048576):l6 ⟨body⟩ ⟨[46]⟩=some (⟨(pj body).1⟩,⟨(pj body).2.getD []⟩,(pj body).2.isSome):=by
 have Dj:gk ⟨body⟩ ⟨[46]⟩=some (Lib.indexByte body 46):=rfl
 have:=FD body
 refine ag (a:=(⟨(pj body).1⟩,⟨(pj body).2.getD []⟩,(pj body).2.isSome)) (ag Dj ?_) rfl
 cases h:(pj body).2 with
 |none=>grind
 |some r=>
  rw[h]at this
  obtain⟨i1,i2⟩:=this
  have hl:=congrArg List.length i2
  rw[List.length_append,List.length_cons]at hl
  rw[i1]
  generalize(pj body).1=wh at*
  have w1:aC (wh.length+(((⟨[46]⟩:bk).b.length):Int))=((wh.length+1):Int):=by exact xF (by omega)
  refine aM (by simp) (aD (by grind) (aD (by grind) ?_))
  have p1:part body 0 wh.length=wh:=by
   conv=>lhs;rw[i2]
   exact List.take_left
  have p2:part body ((wh.length+1:Nat):Int) body.length=r:=by
   unfold part
   rw[Int.toNat_natCast,show(body.length -((wh.length+1:Nat):Int)).toNat=r.length by omega]
   conv=>lhs;rw[i2]
   rw[List.drop_append,List.drop_eq_nil_of_le (by omega),show wh.length+1 -wh.length=1 by omega]
   exact List.take_length
  grind
theorem nb0(k:Nat):((k:Int)==0)=(k==0):=by grind
theorem Zr(r:List UInt8)(hb:r.length<1048576)(h:r.all e9=true):jb ⟨r⟩=some (CA 6 r):=by
 have e:(bk.mk (part (bk.mk (r++(bk.mk [48,48,48,48,48,48]).b)).b 0 6)).b=(r++List.replicate 6 48).take 6:=by rfl
 refine aD (by grind [QK]) (aD ⟨Int.le_refl _,by simp,by grind⟩ (ag (a:=(CA 6 r,0)) ?_ rfl))
 unfold ly
 rw[e]
 have hlen:((r++List.replicate 6 48).take 6).length=6:=by simp
 have dq:((r++List.replicate 6 48).take 6).all e9=true:=by
  rw[List.all_eq_true]
  intro x hx
  rcases List.mem_append.1 (List.mem_of_mem_take hx)with h1|h1
  ·grind
  ·rw[(List.mem_replicate.1 h1).2];rfl
 rw[A2 _ 0 (Int.le_refl _) dq (by omega) (by grind),hlen,M9]
 simp
theorem RJ{s:List UInt8}{F:Int×bk->Option (ab×Int)}{o:Option (Int×bk)}{sg:Int}{body:List UInt8}{r:ab×Int}(h:o=some (sg,⟨body⟩))(k:F (sg,⟨body⟩)=some r)(e:Pq s=r):jn o F=some (Pq s):=by simp_all
theorem ahd(s:List UInt8)(hb:s.length<1048576):mW ⟨s⟩=some (Pq s):=by
 unfold mW
 obtain⟨sg,body,h1,h2,h3,h4⟩:∃(sg:Int)(body:List UInt8),(bn (cM ⟨s⟩ (bk.mk [45])) fun r4=>
  if r4 then
   bt (0<=(1:Int)/\1<=(((⟨s⟩:bk).b.length:Nat):Int)/\(((⟨s⟩:bk).b.length:Nat):Int)<=(((⟨s⟩:bk).b.length:Nat):Int))<|
   some ((-1),bk.mk (part s 1 (s.length:Int)))
  else
   bn (cM ⟨s⟩ (bk.mk [43])) fun r5=>
   if r5 then
    bt (0<=(1:Int)/\1<=(((⟨s⟩:bk).b.length:Nat):Int)/\(((⟨s⟩:bk).b.length:Nat):Int)<=(((⟨s⟩:bk).b.length:Nat):Int))<|
    some (1,bk.mk (part s 1 (s.length:Int)))
   else
    some (1,⟨s⟩))=some (sg,⟨body⟩)/\Pq s=Xm sg body/\(sg=1\/sg=-1)/\body.length<=s.length:=by
  cases s with
  |nil=>exact⟨1,[],ag (Uk [] 45) (al nF (ag (Uk [] 43) (al nF rfl))),rfl,.inl rfl,Nat.le_refl _⟩
  |cons c r=>
   have e45:(c==45)=((c.toNat:Int)==45):=of_decide_eq_true (ml (fun c=>decide ((c==45)=((c.toNat:Int)==45))) (by kernel_rfl) c)
   have e43:(c==43)=((c.toNat:Int)==43):=of_decide_eq_true (ml (fun c=>decide ((c==43)=((c.toNat:Int)==43))) (by kernel_rfl) c)
   have pr:part (c::r) 1 ((c::r).length:Int)=r:=by
    unfold part
    rw[show(1:Int).toNat=1 from rfl,List.length_cons,show(((r.length+1:Nat):Int) -1).toNat=r.length by omega]
    show r.take r.length=r
    exact List.take_length
   have nd:0<=(1:Int)/\1<=(((c::r).length:Nat):Int)/\(((c::r).length:Nat):Int)<=(((c::r).length:Nat):Int):=by rw[List.length_cons];omega
   have h45:=Uk (c::r) 45
   have h43:=Uk (c::r) 43
   simp only[e45]at h45
   simp only[e43]at h43
   by_cases c45:((c.toNat:Int)==45)=true
   ·refine⟨-1,r,ag h45 (aM c45 (aD nd ?_)),by unfold Pq;grind,.inr rfl,by simp⟩
    rw[pr]
   ·by_cases c43:((c.toNat:Int)==43)=true
    ·refine⟨1,r,ag h45 (al c45 (ag h43 (aM c43 (aD nd ?_)))),by unfold Pq;grind,.inl rfl,by simp⟩
     rw[pr]
    ·exact⟨1,c::r,ag h45 (al c45 (ag h43 (al c43 rfl))),by unfold Pq;grind,.inl rfl,Nat.le_refl _⟩
 refine RJ (r:=Xm sg body) h1 ?_ h2
 refine ag (Ym body (by omega)) ?_
 have hlen:=P2 body
 unfold Xm
 generalize hwr:pj body=q at hlen
 obtain⟨wh,ro⟩:=q
 show(bn (jv (!((aC ((wh.length:Int)+((ro.getD []).length:Int)))==0)) false (mM ⟨wh⟩)) _)=some (U4 sg wh ro)
 unfold U4
 have wl:aC ((wh.length:Int)+((ro.getD []).length:Int))=((wh.length+(ro.getD []).length:Nat):Int):=by
  have hlen:wh.length+(ro.getD []).length<=body.length:=hlen
  rw[ar (by omega) (by omega)];rfl
 have hlen:wh.length+(ro.getD []).length<=body.length:=hlen
 have wz:((aC ((wh.length:Int)+((ro.getD []).length:Int)))==0)=((wh.length+(ro.getD []).length)==0):=by rw[wl];exact nb0 _
 simp only[wz]
 cases hz:((wh.length+(ro.getD []).length)==0)with
 |true=>simp_all
 |false=>
  rw[Bool.false_or,Bool.not_false,Hm]
  refine ag (show mM ⟨wh⟩=some (wh.all e9) from rfl) ?_
  cases ha:wh.all e9 with
  |false=>simp_all
  |true=>
   rw[Bool.not_true,Bool.false_or,Bool.false_or,Bool.not_false,Hm]
   refine ag (show mM ⟨ro.getD []⟩=some ((ro.getD []).all e9) from rfl) ?_
   cases hr:(ro.getD []).all e9 with
   |false=>grind
   |true=>
    rw[Bool.not_true,if_neg nF]
    refine al nF (aD (by grind [QK]) ?_)
    have d0:ql (0,false) 48=(0,false):=by decide
    have hd:ly (bk.mk ((bk.mk [48]).b++(⟨wh⟩:bk).b))=some (mF wh (0,false)):=by
     show some (mF (48::wh) (0,false))=_
     rw[mF,if_pos (show e9 48=true from rfl),d0]
    refine ag hd ?_
    have rg:=H7 wh 0 false (Int.le_refl _) (by decide) ha
    generalize mF wh (0,false)=n at rg
    obtain⟨n,e⟩:=n
    obtain⟨n0,n1,n2⟩:=rg
    have n0:0<=n:=n0
    have n1:n<=2147483647:=n1
    have n2:e=0\/e=5:=n2
    rcases n2 with rfl|rfl
    ·refine al nF ?_
     have h0:¬(((n,(0:Int)).2 !=0)=true):=by show¬(((0:Int)!=0)=true);decide
     rw[if_neg h0]
     cases ro with
     |none=>
      refine aM rfl ?_
      show some ((⟨2,aC (sg*n),⟨[]⟩,[]⟩:ab),(0:Int))=some (⟨2,sg*n,⟨[]⟩,[]⟩,0)
      rw[ar (by grind) (by grind)]
     |some r=>
      have hr:r.all e9=true:=hr
      have hrl:r.length<=body.length:=by simp only[Option.getD_some]at hlen;omega
      refine al nF (ag (Zr r (by omega) hr) ?_)
      have pr:=Na 6 r hr
      have p6:CA 6 r<1000000:=pr.2
      have wN:aC (sg*(aC ((aC (n*1000000))+CA 6 r)))=sg*(n*1000000+CA 6 r):=by rw[ar (n:=n*1000000) (by omega) (by omega),ar (n:=n*1000000+CA 6 r) (by omega) (by omega),ar (by grind) (by grind)]
      simp only[wN]
      have ajh:aC (0 -2147483647000000)=-2147483647000000:=by decide
      by_cases hov:n*1000000+CA 6 r>2147483647000000
      ·rw[if_pos hov]
       refine ag (a:=2) ?_ (aM rfl rfl)
       unfold mV
       refine dv (z:=.inl 2147483647000000) (al (by grind) (aM rfl rfl)) (aM ?_ rfl)
       grind
      ·rw[if_neg hov]
       refine ag (a:=0) ?_ (al (by decide) rfl)
       unfold mV
       refine dv (z:=.inl 2147483647000000) (al (by grind) (aM rfl rfl)) (al ?_ rfl)
       grind
    grind
def Dv:ab:=⟨0,0,⟨[]⟩,[]⟩
def RH(f:Nat):aF:=⟨0,f,f,Dv,⟨[]⟩⟩
def tok(f t:Nat)(q:ab×Int):aF×Int:=if q.2 !=0 then(RH f,q.2)else(⟨1,f,t,q.1,⟨[]⟩⟩,0)
def yN(f:Nat):(List UInt8×Nat)⊕Int->aF×Int
 |.inl r=>(⟨1,f,r.2,⟨4,0,⟨r.1⟩,[]⟩,⟨[]⟩⟩,0)
 |.inr e=>(RH f,e)
def ZE(c:UInt8):Bool:=((((decide ((c.toNat:Int)>=48))&&(decide ((c.toNat:Int)<=57)))||((c.toNat:Int)==43))||((c.toNat:Int)==45))||((c.toNat:Int)==46)
section
variable(b:List UInt8)(last:Bool)
def Hw(f:Nat)(c:UInt8):aF×Int:=
 if VA c then(if(decide ((tg b f:Int)<(b.length:Int)))||last then(if ZE c then tok f (tg b f) (Pq (part b (f:Int) (tg b f:Int)))else(⟨6,f,tg b f,Dv,⟨part b (f:Int) (tg b f:Int)⟩⟩,0))else(RH f,6))
 else if(c.toNat:Int)==91 then(⟨2,f,((f+1:Nat):Int),Dv,⟨[]⟩⟩,0)
 else if(c.toNat:Int)==93 then(⟨3,f,((f+1:Nat):Int),Dv,⟨[]⟩⟩,0)
 else if(c.toNat:Int)==60 then(match b[f+1]? with
  |none=>(RH f,xW last)
  |some d=>if(d.toNat:Int)==60 then(⟨4,f,((f+2:Nat):Int),Dv,⟨[]⟩⟩,0)else yN f (Eh b last (b.length+1) ([],-1) (f+1)))
 else if(c.toNat:Int)==62 then(match b[f+1]? with
  |none=>(RH f,if last then 11 else 6)
  |some d=>if(d.toNat:Int)==62 then(⟨5,f,((f+2:Nat):Int),Dv,⟨[]⟩⟩,0)else(RH f,11))
 else if(c.toNat:Int)==40 then yN f (xL b last (b.length+1) 1 [] (f+1))
 else if(c.toNat:Int)==47 then(if(decide ((tg b (f+1):Int)<(b.length:Int)))||last then tok f (tg b (f+1)) (Po (part b ((f+1:Nat):Int) (tg b (f+1):Int)))else(RH f,6))
 else(RH f,11)
def gW(k:Nat):aF×Int:=match b[Ca b k]? with
 |none=>(RH (Ca b k),if last then 0 else 6)
 |some c=>Hw b last (Ca b k) c
variable{b last}
theorem LG(k:Nat)(hk:k<=b.length):k<=Ca b k/\Ca b k<=b.length:=LH _ _ _ hk
theorem GV(k:Nat)(hk:k<=b.length):k<=tg b k/\tg b k<=b.length:=GX _ _ hk
theorem Sz{k:Nat}{c:UInt8}(hx:b[k]? =some c)(hc:VA c=true):k<tg b k:=by
 obtain⟨hl,_⟩:=cZ hx
 unfold tg
 obtain⟨m,hm⟩:∃m,b.length=m+1:=⟨b.length -1,by omega⟩
 rw[hm,Hv]
 grind [GX]
theorem OI{k e:Nat}{c:UInt8}(hx:b[k]? =some c)(h1:k<e)(h2:e<=b.length):part b (k:Int) (e:Int)=c::part b ((k+1:Nat):Int) (e:Int)/\(part b (k:Int) (e:Int)).length=e -k:=by
 obtain⟨hl,hc⟩:=List.getElem?_eq_some_iff.1 hx
 unfold part
 rw[Int.toNat_natCast,show(e -(k:Int)).toNat=(e -(k+1))+1 by omega,List.drop_eq_getElem_cons hl,List.take_succ_cons]
 grind
theorem R5{k e:Nat}(h1:k<=e)(h2:e<=b.length):(part b (k:Int) (e:Int)).length=e -k:=by grind [part,List.length_take,List.length_drop,Int.toNat_natCast]
theorem mR:∀(f:Nat)(d:Int)(o:List UInt8)(j:Nat),j<=b.length->Xq j b.length (xL b last f d o j)
 |0,d,o,j,_=>wy last
 |f+1,d,o,j,hj=>by
  rw[xL]
  cases hx:b[j]? with
  |none=>exact wy last
  |some c=>
   have hl:=(cZ hx).1
   simp only
   have up:∀{r:(List UInt8×Nat)⊕Int}{j':Nat},j<j'->Xq j' b.length r->Xq j b.length r:=fun{r j'} h hr=>by
    cases r with
    |inl r=>exact⟨Nat.lt_trans h hr.1,hr.2⟩
    |inr e=>exact hr
   split
   ·have hp:=Mx (b:=b) (last:=last) (j+1) (by omega)
    cases hes:Kz b last (j+1)with
    |inr e=>rw[hes]at hp;rw[hp];exact wy last
    |inl r=>rw[hes]at hp;exact up (by have:=hp.1;omega) (mR f d _ r.2 hp.2.1)
   ·split
    ·cases hy:b[j+1]? with
     |none=>
      simp only
      split
      ·exact up (Nat.lt_succ_self j) (mR f d _ (j+1) (by omega))
      ·exact(by decide:(6:Int)≠0)
     |some e=>
      have hl2:=(cZ hy).1
      simp only
      split
      ·exact up (by omega) (mR f d _ (j+2) (by omega))
      ·exact up (Nat.lt_succ_self j) (mR f d _ (j+1) (by omega))
    ·split
     ·exact up (Nat.lt_succ_self j) (mR f _ _ (j+1) (by omega))
     ·split
      ·split
       ·exact⟨Nat.lt_succ_self j,by grind⟩
       ·exact up (Nat.lt_succ_self j) (mR f _ _ (j+1) (by omega))
      ·exact up (Nat.lt_succ_self j) (mR f d _ (j+1) (by omega))
def F6(f:Nat)(x:aF×Int×ao):aF×Int:=if x.2.1 !=0 then(RH f,x.2.1)else(⟨x.1.Kind,f,x.2.2.at_,x.1.V,x.1.S⟩,0)
theorem Y8(hb:b.length<1048576)(f:Nat)(c:UInt8)(hx:b[f]? =some c):∃x,gO ⟨zt.zero,b,(f:Int),last⟩ c=some x/\F6 f x=Hw b last f c:=by
 obtain⟨hl,hi⟩:=cZ hx
 have hw:=xF (n:=f) (by omega)
 unfold gO Hw
 refine KA (fun z=>z=VA c) ⟨_,IU c,rfl⟩ ?_
 rintro _ rfl
 have hru:=GV (b:=b) f (by omega)
 cases hr:VA c with
 |true=>
  have hlt:=Sz hx hr
  obtain⟨p1,p2⟩:=OI hx hlt hru.2
  simp only[if_true]
  unfold gh
  rw[Xg (by omega) zt.zero f last (by omega),aJ]
  show∃x,(bn (if(!((decide ((tg b f:Int)<(b.length:Int)))||last))=true then _ else bt (0<=(0:Int)/\(0:Int)<((part b (f:Int) (tg b f:Int)).length:Int)) (if ZE (ix (part b (f:Int) (tg b f:Int)) 0)=true then _ else _)) _)=some x/\_
  have hix:ix (part b (f:Int) (tg b f:Int)) 0=c:=by rw[p1];rfl
  rw[hix]
  cases hd:(decide ((tg b f:Int)<(b.length:Int)))||last with
  |false=>exact⟨_,ag (aM rfl rfl) rfl,by rw[if_neg nF];rfl⟩
  |true=>
   rw[if_pos rfl]
   have nd:0<=(0:Int)/\(0:Int)<((part b (f:Int) (tg b f:Int)).length:Int):=by rw[p2];omega
   by_cases hn:ZE c=true
   ·rw[if_pos hn,if_pos hn]
    refine⟨_,ag (al nT (aD nd (ag (ahd _ (by grind)) rfl))) rfl,?_⟩
    grind [F6,tok]
   ·rw[if_neg hn,if_neg hn]
    exact⟨_,ag (al nT (aD nd rfl)) rfl,rfl⟩
 |false=>
  rw[if_neg nF]
  simp only[hw]
  rw[if_neg nF]
  by_cases h91:((c.toNat:Int)==91)=true
  ·rw[if_pos h91,if_pos h91];exact⟨_,rfl,rfl⟩
  rw[if_neg h91,if_neg h91]
  by_cases h93:((c.toNat:Int)==93)=true
  ·rw[if_pos h93,if_pos h93];exact⟨_,rfl,rfl⟩
  rw[if_neg h93,if_neg h93]
  by_cases h60:((c.toNat:Int)==60)=true
  ·rw[if_pos h60,if_pos h60]
   unfold gN
   cases hy:b[f+1]? with
   |none=>exact⟨_,ag (ag (qy hy) (aM rfl (ag (MW ..) rfl))) rfl,by unfold F6;exact if_pos (by grind [xW])⟩
   |some d=>
    have hl2:=(cZ hy).1
    have hw2:=xF (n:=f+1) (by omega)
    simp only
    by_cases hd:((d.toNat:Int)==60)=true
    ·rw[if_pos hd]
     refine⟨_,ag (ag (eR hy) (al nT (aM hd rfl))) rfl,?_⟩
     show((⟨4,f,aC (((f+1:Nat):Int)+1),Dv,⟨[]⟩⟩:aF),(0:Int))=_
     rw[hw2]
    ·rw[if_neg hd]
     obtain⟨x,x1,x2⟩:=Y6 (last:=last) hb false (f+1) (by omega)
     refine⟨_,ag (ag (eR hy) (al nT (al hd (ag (show fG ⟨zt.zero,b,_,last⟩=_ from x1) rfl)))) rfl,?_⟩
     have hp:=Ak (b:=b) (last:=last) (b.length+1) ([],-1) (f+1) (by omega)
     cases hq:Eh b last (b.length+1) ([],-1) (f+1)with
     |inl r=>
      rw[hq]at x2
      obtain⟨y1,y2,y3⟩:=x2
      unfold F6 yN
      grind
     |inr e=>
      rw[hq]at x2 hp
      have x2:x.2.1=e:=x2
      have hp:e≠0:=hp
      unfold F6 yN
      grind
  rw[if_neg h60,if_neg h60]
  by_cases h62:((c.toNat:Int)==62)=true
  ·rw[if_pos h62,if_pos h62]
   unfold gL
   cases hy:b[f+1]? with
   |none=>
    cases last with
    |true=>exact⟨_,ag (ag (qy hy) (al nF (aM rfl rfl))) rfl,rfl⟩
    |false=>exact⟨_,ag (ag (qy hy) (aM rfl rfl)) rfl,rfl⟩
   |some d=>
    have hl2:=(cZ hy).1
    have hw2:=xF (n:=f+1) (by omega)
    simp only
    by_cases hd:((d.toNat:Int)==62)=true
    ·rw[if_pos hd]
     refine⟨_,ag (ag (eR hy) (al nF (al (by grind) rfl))) rfl,?_⟩
     show((⟨5,f,aC (((f+1:Nat):Int)+1),Dv,⟨[]⟩⟩:aF),(0:Int))=_
     rw[hw2]
    ·rw[if_neg hd]
     exact⟨_,ag (ag (eR hy) (al nF (aM (by grind) rfl))) rfl,rfl⟩
  rw[if_neg h62,if_neg h62]
  by_cases h40:((c.toNat:Int)==40)=true
  ·rw[if_pos h40,if_pos h40]
   obtain⟨x,x1,x2⟩:=adw (last:=last) hb false (f+1) (by omega)
   refine⟨_,ag (show gw ⟨zt.zero,b,_,last⟩=_ from x1) rfl,?_⟩
   have hp:=mR (b:=b) (last:=last) (b.length+1) 1 [] (f+1) (by omega)
   cases hq:xL b last (b.length+1) 1 [] (f+1)with
   |inl r=>
    rw[hq]at x2
    obtain⟨y1,y2,y3⟩:=x2
    unfold F6 yN
    grind
   |inr e=>
    rw[hq]at x2 hp
    have x2:x.2.1=e:=x2
    have hp:e≠0:=hp
    unfold F6 yN
    grind
  rw[if_neg h40,if_neg h40]
  by_cases h47:((c.toNat:Int)==47)=true
  ·rw[if_pos h47,if_pos h47]
   have hr2:=GV (b:=b) (f+1) (by omega)
   have pl:=R5 (b:=b) hr2.1 hr2.2
   refine KA (fun z=>z=_) ⟨_,Xg (by omega) zt.zero (f+1) last (by omega),rfl⟩ ?_
   rintro _ rfl
   cases hd:(decide ((tg b (f+1):Int)<(b.length:Int)))||last with
   |false=>exact⟨_,aM rfl rfl,by rw[if_neg nF];rfl⟩
   |true=>
    rw[if_pos rfl]
    refine⟨_,al nT (ag (adu (by grind)) rfl),?_⟩
    grind [F6,tok]
  rw[if_neg h47,if_neg h47]
  exact⟨_,rfl,rfl⟩
theorem zg(hb:b.length<1048576)(k:Nat)(hk:k<=b.length):dI b (k:Int) last=some (gW b last k):=by
 unfold dI gW
 have hs:=LG k hk
 refine al (by grind) (ag (adv (by omega) k hk) ?_)
 cases hx:b[Ca b k]? with
 |none=>
  have:=qg hx
  refine aM (by grind) ?_
  cases last<;>rfl
 |some c=>
  obtain⟨hl,hi⟩:=cZ hx
  obtain⟨x,x1,x2⟩:=Y8 hb (Ca b k) c hx
  refine al (by grind) (aD (by omega) ?_)
  rw[hi]
  refine ag x1 ?_
  show _=some (Hw b last (Ca b k) c)
  rw[<-x2]
  unfold F6
  by_cases he:(x.2.1 !=0)=true
  ·rw[if_pos he,if_pos he];rfl
  grind
end
end Go.AB
end
