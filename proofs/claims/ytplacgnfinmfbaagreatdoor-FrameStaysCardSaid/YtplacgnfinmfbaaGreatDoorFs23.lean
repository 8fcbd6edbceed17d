/- A part. -/
import Derived.Test.YtplacgnfinmfbaaGreatDoorFs15
set_option linter.unusedSimpArgs false
set_option linter.unusedVariables false
section
namespace Go.AB
open Go
theorem whn{α:Type}{g:Bool}{z:α}{o:Option α}(hg:g=false):en g z o=some z:=by simp_all
theorem nT:¬((!true)=true):=by decide
theorem nF:¬(false=true):=by decide
def Yw(c:UInt8):Bool:=((((((c.toNat:Int)==0)||((c.toNat:Int)==9))||((c.toNat:Int)==10))||((c.toNat:Int)==12))||((c.toNat:Int)==13))||((c.toNat:Int)==32)
def deB(c:UInt8):Bool:=decide (Lib.indexByte [40,41,60,62,91,93,123,125,47,37] c>=0)
def Wv(c:UInt8):Bool:=!Yw c&&!deB c
def Gk(c:UInt8):Int:=if(decide ((c.toNat:Int)>=48))&&(decide ((c.toNat:Int)<=57))then(c.toNat:Int) -48 else if(decide ((c.toNat:Int)>=97))&&(decide ((c.toNat:Int)<=102))then(c.toNat:Int) -87 else if(decide ((c.toNat:Int)>=65))&&(decide ((c.toNat:Int)<=70))then(c.toNat:Int) -55 else -1
theorem xD(c:UInt8):iE c=some (Yw c):=rfl
theorem ZP(c:UInt8):nt c=some (deB c):=rfl
theorem KA(c:UInt8):eQ c=some (Wv c):=by
 unfold eQ Wv
 rw[xD,ZP]
 cases Yw c<;>rfl
theorem Ac(c:UInt8):im c=some (Gk c):=of_decide_eq_true (mK (fun c=>decide (im c=some (Gk c))) (by kernel_rfl) c)
theorem NU(c:UInt8):-1<=Gk c/\Gk c<=15:=of_decide_eq_true (mK (fun c=>decide (-1<=Gk c/\Gk c<=15)) (by kernel_rfl) c)
theorem cL{b:List UInt8}{j:Nat}{x:UInt8}(h:b[j]? =some x):j<b.length/\ix b (j:Int)=x:=⟨(List.getElem?_eq_some_iff.1 h).1,RV h⟩
theorem oA{b:List UInt8}{j:Nat}(h:b[j]? =none):b.length<=j:=List.getElem?_eq_none_iff.1 h
theorem zB{n:Nat}(h:n<4611686018427387904):aw ((n:Int)+1)=((n+1:Nat):Int):=by grind [ar]
section
variable(b:List UInt8)
def IZ:Nat->Bool->Nat->Nat
 |0,_,j=>j
 |f+1,c,j=>match b[j]? with
  |none=>j
  |some x=>if c then IZ f (((x.toNat:Int)!=10)&&((x.toNat:Int)!=13)) (j+1)else if(x.toNat:Int)==37 then IZ f true (j+1)else if !Yw x then j else IZ f false (j+1)
def Jn:Nat->Nat->Nat
 |0,j=>j
 |f+1,j=>match b[j]? with
  |none=>j
  |some x=>if Wv x then Jn f (j+1)else j
variable{b}
theorem M4:∀(f:Nat)(c:Bool)(j:Nat),j<=b.length->j<=IZ b f c j/\IZ b f c j<=b.length
 |0,_,j,h=>⟨Nat.le_refl _,h⟩
 |f+1,c,j,h=>by
  rw[IZ]
  cases hx:b[j]? with
  |none=>grind
  |some x=>
   have hj:=(cL hx).1
   have ih:=fun c=>M4 f c (j+1) (by omega)
   simp only
   split
   ·have:=ih (((x.toNat:Int)!=10)&&((x.toNat:Int)!=13));omega
   ·split
    ·have:=ih true;omega
    ·split
     ·omega
     ·have:=ih false;omega
theorem IT:∀(f:Nat)(j:Nat),j<=b.length->j<=Jn b f j/\Jn b f j<=b.length
 |0,j,h=>⟨Nat.le_refl _,h⟩
 |f+1,j,h=>by
  rw[Jn]
  cases hx:b[j]? with
  |none=>grind
  |some x=>
   have hj:=(cL hx).1
   have ih:=IT f (j+1) (by omega)
   simp only
   split<;>omega
def Ee(b:List UInt8)(j:Nat):Nat:=IZ b b.length false j
theorem aev(hb:b.length<1152921504606846976)(k:Nat)(hk:k<=b.length):nW b (k:Int)=some (Ee b k:Int):=by
 have hT:=M4 (b:=b) b.length false k hk
 generalize hTT:IZ b b.length false k=T at hT
 have hA:Ee b k=T:=hTT
 rw[hA]
 unfold nW
 refine an (by simp) (Ky (z:=if T<b.length then .inr (T:Int)else .inl ()) (LM (iter_eq (o:=if T<b.length then .inr (T:Int)else .inl ()) (fun(s:Int×Bool)=>∃j f:Nat,s.1=j/\j<=b.length/\b.length -j<=f/\IZ b f s.2 j=T) (fun s=>b.length -s.1.toNat) ⟨k,b.length,rfl,hk,by omega,hTT⟩ (by simp;omega) ?_) (by by_cases h:T<b.length<;>simp[h])) ?_)
 ·rintro⟨a,c⟩ ⟨j,f,e,hj,hf,hs⟩
  have e:a=(j:Int):=e
  subst e
  cases hx:b[j]? with
  |none=>
   have hl:=oA hx
   right
   have:T=j:=by
    cases f with
    |zero=>exact hs.symm
    |succ f=>grind [IZ]
   grind
  |some x=>
   obtain⟨hl,hi⟩:=cL hx
   obtain⟨f,rfl⟩:∃g,f=g+1:=⟨f -1,by omega⟩
   rw[IZ,hx]at hs
   simp only at hs
   have hw:=zB (n:=j) (by omega)
   cases c with
   |true=>
    left
    rw[if_pos rfl]at hs
    exact⟨_,aN (by simp;omega) (di (ay (by omega) (aN rfl rfl)) rfl),⟨j+1,f,hw,by omega,by omega,by grind⟩,by grind⟩
   |false=>
    rw[if_neg (by decide)]at hs
    by_cases h37:((x.toNat:Int)==37)=true
    ·left
     rw[if_pos h37]at hs
     exact⟨_,aN (by simp;omega) (di (ay (by omega) (an (by decide) (aN (by grind) rfl))) rfl),⟨j+1,f,hw,by omega,by omega,hs⟩,by grind⟩
    ·rw[if_neg h37]at hs
     by_cases hsp:(!Yw x)=true
     ·right
      rw[if_pos hsp]at hs
      subst hs
      rw[if_pos hl]
      exact aN (by simp;omega) (di (ay (by omega) (an (by decide) (an (by grind) (aj (xD _) (aN (by grind) rfl))))) rfl)
     ·left
      rw[if_neg hsp]at hs
      exact⟨_,aN (by simp;omega) (di (ay (by omega) (an (by decide) (an (by grind) (aj (xD _) (an (by grind) rfl))))) rfl),⟨j+1,f,hw,by omega,by omega,hs⟩,by grind⟩
 ·by_cases h:T<b.length
  ·simp_all
  ·rw[if_neg h,show T=b.length by omega];rfl
def vg(b:List UInt8)(j:Nat):Nat:=Jn b b.length j
theorem XX(hb:b.length<1152921504606846976)(B:wg)(k:Nat)(last:Bool)(hk:k<=b.length):fq ⟨B,b,(k:Int),last⟩=some (⟨part b (k:Int) (vg b k:Int)⟩,(decide ((vg b k:Int)<(b.length:Int)))||last,⟨B,b,(vg b k:Int),last⟩):=by
 have hT:=IT (b:=b) b.length k hk
 generalize hTT:Jn b b.length k=T at hT
 have hA:vg b k=T:=hTT
 rw[hA]
 unfold fq
 refine dI (iter_eq (o:=(⟨B,b,(T:Int),last⟩:aq)) (fun(s:aq)=>∃j f:Nat,s=⟨B,b,(j:Int),last⟩/\j<=b.length/\b.length -j<=f/\Jn b f j=T) (fun s=>b.length -s.at_.toNat) ⟨k,b.length,rfl,hk,by omega,hTT⟩ (by simp;omega) ?_) (ay ?_ rfl)
 ·rintro a ⟨j,f,rfl,hj,hf,hs⟩
  cases hx:b[j]? with
  |none=>
   have hl:=oA hx
   right
   have:T=j:=by
    cases f with
    |zero=>exact hs.symm
    |succ f=>grind [Jn]
   have hd:decide ((j:Int)<(b.length:Int))=false:=by simp;omega
   rw[this]
   simp only[hd,Bool.false_eq_true,false_implies,Pz,WT,aJ,Bool.false_and]
   rfl
  |some x=>
   obtain⟨hl,hi⟩:=cL hx
   obtain⟨f,rfl⟩:∃g,f=g+1:=⟨f -1,by omega⟩
   rw[Jn,hx]at hs
   simp only at hs
   have hw:=zB (n:=j) (by omega)
   have hd:decide ((j:Int)<(b.length:Int))=true:=by simp;omega
   have hrx:eQ (ix b (j:Int))=some (Wv x):=by rw[hi];exact KA x
   by_cases hr:Wv x=true
   ·rw[if_pos hr]at hs
    left
    refine⟨_,ay (fun _=>⟨by grind,by grind⟩) (aj (by show en (decide ((j:Int)<(b.length:Int))) false (eQ (ix b (j:Int)))=_;rw[hd,Jh,hrx]) (aN (by grind) rfl)),⟨j+1,f,by grind,by omega,by omega,hs⟩,by grind⟩
   simp_all
 grind
end
def ym(last:Bool):Int:=if last then 10 else 6
theorem Oc(B:wg)(b:List UInt8)(k:Int)(last:Bool):cC ⟨B,b,k,last⟩=some (ym last):=by cases last<;>rfl
theorem rn{B:wg}{b:List UInt8}{j:Nat}{last:Bool}(h:b[j]? =none):bN ⟨B,b,(j:Int),last⟩=some (0,false):=by
 have:=oA h
 exact aN (by simp;omega) rfl
theorem eP{B:wg}{b:List UInt8}{j:Nat}{last:Bool}{x:UInt8}(h:b[j]? =some x):bN ⟨B,b,(j:Int),last⟩=some (x,true):=by
 obtain⟨h1,h2⟩:=cL h
 exact an (by simp;omega) (ay (by show 0<=(j:Int)/\(j:Int)<b.length;omega) (by show some (ix b (j:Int),true)=_;rw[h2]))
theorem yn(last:Bool):ym last≠0:=by cases last<;>decide
def X9{A:Type}(j n:Nat):(A×Nat)⊕Int->Prop
 |.inl r=>j<r.2/\r.2<=n
 |.inr e=>e≠0
theorem X9.mono{A:Type}{j n:Nat}:∀{r:(A×Nat)⊕Int},X9 (j+1) n r->X9 j n r
 |.inl _,h=>⟨Nat.lt_of_succ_lt h.1,h.2⟩
 |.inr _,h=>h
def eM(q:List UInt8×Int)(d:Int):List UInt8×Int:=if q.2<0 then(q.1,d)else(q.1++[gX (aw (aw (16*q.2)+d))],-1)
def pk(q:List UInt8×Int):List UInt8:=if q.2>=0 then q.1++[gX (aw (16*q.2))]else q.1
section
variable(b:List UInt8)(last:Bool)
def Ke:Nat->List UInt8×Int->Nat->(List UInt8×Nat)⊕Int
 |0,_,_=>.inr (ym last)
 |f+1,q,j=>match b[j]? with
  |none=>.inr (ym last)
  |some x=>if(x.toNat:Int)==62 then .inl (pk q,j+1)else if Yw x then Ke f q (j+1)else if decide (Gk x<0)then .inr 11 else Ke f (eM q (Gk x)) (j+1)
variable{b last}
def Hq(q:List UInt8×Int)(j:Nat):Prop:=q.1.length<=j/\-1<=q.2/\q.2<=15
theorem Hq.mono{q:List UInt8×Int}{j:Nat}(h:Hq q j):Hq q (j+1):=⟨by have:=h.1;omega,h.2⟩
theorem Hq.step{q:List UInt8×Int}{j:Nat}(h:Hq q j)(x:UInt8):Hq (eM q (Gk x)) (j+1):=by
 obtain⟨h1,h2,h3⟩:=h
 have:=NU x
 unfold eM
 split
 ·exact⟨by show q.1.length<=j+1;omega,this.1,this.2⟩
 ·exact⟨by show(q.1++_).length<=j+1;simp;omega,by show(-1:Int)<=-1;omega,by show(-1:Int)<=15;omega⟩
theorem Ex{u:Bool}{o:List UInt8}(c:UInt8)(h:o.length+1<=room):aE ⟨u,true,⟨o⟩⟩ c=some (OO.mk,⟨true,true,⟨o++[c]⟩⟩):=ay rfl (ay h rfl)
theorem YR{u:Bool}{o:List UInt8}(h:o.length<=room):bk ⟨u,true,⟨o⟩⟩=some (⟨o⟩,⟨u,false,⟨o⟩⟩):=ay ⟨rfl,h⟩ rfl
theorem BS:∀(f:Nat)(q:List UInt8×Int)(j:Nat),j<=b.length->X9 j b.length (Ke b last f q j)
 |0,q,j,_=>yn last
 |f+1,q,j,hj=>by
  rw[Ke]
  cases hx:b[j]? with
  |none=>exact yn last
  |some x=>
   have hl:=(cL hx).1
   simp only
   by_cases h1:((x.toNat:Int)==62)=true
   ·rw[if_pos h1];exact⟨by show j<j+1;omega,by show j+1<=_;omega⟩
   ·rw[if_neg h1]
    by_cases h2:Yw x=true
    ·rw[if_pos h2];exact(BS f q (j+1) (by omega)).mono
    ·rw[if_neg h2]
     by_cases h3:(decide (Gk x<0))=true
     ·rw[if_pos h3];exact(by decide:(11:Int)≠0)
     ·rw[if_neg h3];exact(BS f (eM q (Gk x)) (j+1) (by omega)).mono
def Qi(r:(List UInt8×Nat)⊕Int)(x:aa×Int×aq):Prop:=match r with
 |.inl r=>x.1=⟨4,0,⟨r.1⟩,[]⟩/\x.2.1=0/\x.2.2.at_=(r.2:Int)
 |.inr e=>x.2.1=e
theorem ZQ(hb:b.length<1048576)(u:Bool)(k:Nat)(hk:k<=b.length):∃x,fC ⟨⟨u,true,⟨[]⟩⟩,b,(k:Int),last⟩=some x/\Qi (Ke b last (b.length+1) ([],-1) k) x:=by
 have cf:room=140737488355328:=rfl
 generalize hT:Ke b last (b.length+1) ([],-1) k=T
 unfold fC
 refine fh (fun(s:Int×aq)=>∃(j f:Nat)(u:Bool)(o:List UInt8),s.2=⟨⟨u,true,⟨o⟩⟩,b,(j:Int),last⟩/\j<=b.length/\b.length -j+1<=f/\Hq (o,s.1) j/\Ke b last f (o,s.1) j=T) (fun s=>b.length -s.2.at_.toNat) (Qi T) ⟨k,b.length+1,u,[],rfl,hk,by omega,⟨Nat.zero_le _,by show(-1:Int)<=-1;decide,by show(-1:Int)<=15;decide⟩,hT⟩ (by show b.length -_<_;omega) ?_
 rintro⟨h,o2⟩ ⟨j,f,u,o,e,hj,hf,hq,hs⟩
 have e:o2=⟨⟨u,true,⟨o⟩⟩,b,(j:Int),last⟩:=e
 subst e
 obtain⟨f,rfl⟩:∃g,f=g+1:=⟨f -1,by omega⟩
 obtain⟨q1,q2,q3⟩:=hq
 have q1:o.length<=j:=q1
 have q2:-1<=h:=q2
 have q3:h<=15:=q3
 rw[Ke]at hs
 cases hx:b[j]? with
 |none=>
  rw[hx]at hs
  refine⟨_,aj (rn hx) (aN rfl (aj (Oc ..) rfl)),?_⟩
  show Qi T _
  rw[<-hs]
  exact rfl
 |some x=>
  obtain⟨hl,hi⟩:=cL hx
  rw[hx]at hs
  simp only at hs
  have hw:=zB (n:=j) (by omega)
  have hm:b.length -(aw ((j:Int)+1)).toNat<b.length -(j:Int).toNat:=by rw[hw];omega
  by_cases h62:((x.toNat:Int)==62)=true
  ·rw[if_pos h62]at hs
   by_cases hh:h>=0
   ·refine⟨_,aj (eP hx) (an nT (aj (Ac x) (di (aN (by rw[h62];simpa using hh) (aj (Ex _ (by omega)) (aj (YR (by simp;omega)) rfl))) rfl))),?_⟩
    show Qi T _
    rw[<-hs]
    exact⟨by show(⟨4,0,_,_⟩:aa)=_;unfold pk;rw[if_pos hh],rfl,hw⟩
   ·refine⟨_,aj (eP hx) (an nT (aj (Ac x) (di (an (by rw[h62];simpa using hh) (aN h62 (aj (YR (by omega)) rfl))) rfl))),?_⟩
    show Qi T _
    rw[<-hs]
    exact⟨by show(⟨4,0,_,_⟩:aa)=_;unfold pk;rw[if_neg hh],rfl,hw⟩
  ·rw[if_neg h62]at hs
   have n62:¬((((x.toNat:Int)==62)&&(decide (h>=0)))=true):=by
    have:((x.toNat:Int)==62)=false:=by simpa using h62
    rw[this];simp
   by_cases hsp:Yw x=true
   ·rw[if_pos hsp]at hs
    refine⟨_,aj (eP hx) (an nT (aj (Ac x) (di (an n62 (an h62 (aj (xD x) (aN hsp rfl)))) rfl))),⟨j+1,f,u,o,?_,by omega,by omega,⟨by show o.length<=j+1;omega,q2,q3⟩,hs⟩,hm⟩
    show(⟨_,b,aw ((j:Int)+1),last⟩:aq)=_
    rw[hw]
   ·rw[if_neg hsp]at hs
    by_cases hn:(decide (Gk x<0))=true
    ·rw[if_pos hn]at hs
     refine⟨_,aj (eP hx) (an nT (aj (Ac x) (di (an n62 (an h62 (aj (xD x) (an hsp (aN hn rfl))))) rfl))),?_⟩
     show Qi T _
     rw[<-hs]
     exact rfl
    ·rw[if_neg hn]at hs
     have hx2:=NU x
     by_cases hh:h<0
     ·refine⟨_,aj (eP hx) (an nT (aj (Ac x) (di (an n62 (an h62 (aj (xD x) (an hsp (an hn (aN (by simpa using hh) rfl)))))) rfl))),⟨j+1,f,u,o,?_,by omega,by omega,⟨by show o.length<=j+1;omega,hx2.1,hx2.2⟩,?_⟩,hm⟩
      ·show(⟨_,b,aw ((j:Int)+1),last⟩:aq)=_
       rw[hw]
      ·unfold eM at hs
       rw[if_pos (show(o,h).2<0 from hh)]at hs
       exact hs
     ·refine⟨_,aj (eP hx) (an nT (aj (Ac x) (di (an n62 (an h62 (aj (xD x) (an hsp (an hn (an (by simpa using hh) (aj (Ex _ (by omega)) rfl))))))) rfl))),⟨j+1,f,true,o++[gX (aw (aw (16*h)+Gk x))],?_,by omega,by omega,⟨?_,by show(-1:Int)<=-1;decide,by show(-1:Int)<=15;decide⟩,?_⟩,hm⟩
      ·show(⟨_,b,aw ((j:Int)+1),last⟩:aq)=_
       rw[hw]
      ·show(o++_).length<=j+1
       simp;omega
      ·unfold eM at hs
       rw[if_neg (show¬(o,h).2<0 from hh)]at hs
       exact hs
end
section
variable{b:List UInt8}{last:Bool}
end
section
variable(b:List UInt8)(last:Bool)
def xH:Nat->Int->Nat->Int×Nat×Bool
 |0,n,j=>(n,j,false)
 |k+1,n,j=>match b[j]? with
  |none=>(n,j,true)
  |some d=>if(decide ((d.toNat:Int)<48))||(decide ((d.toNat:Int)>55))then(n,j,false)else xH k (8*n+((d.toNat:Int) -48)) (j+1)
def NH(j:Nat):(List UInt8×Nat)⊕Int:=match b[j]? with
 |none=>.inr (ym last)
 |some c=>
  if(c.toNat:Int)==110 then .inl ([10],j+1)else if(c.toNat:Int)==114 then .inl ([13],j+1)else if(c.toNat:Int)==116 then .inl ([9],j+1)
  else if(c.toNat:Int)==98 then .inl ([8],j+1)else if(c.toNat:Int)==102 then .inl ([12],j+1)else if(c.toNat:Int)==10 then .inl ([],j+1)
  else if(c.toNat:Int)==13 then(match b[j+1]? with
   |none=>if last then .inl ([],j+1)else .inr 6
   |some d=>if(d.toNat:Int)==10 then .inl ([],j+2)else .inl ([],j+1))
  else if(decide ((c.toNat:Int)<48))||(decide ((c.toNat:Int)>55))then .inl ([c],j+1)
  else if(xH b 2 ((c.toNat:Int) -48) (j+1)).2.2&&!last then .inr 6 else .inl ([gX (xH b 2 ((c.toNat:Int) -48) (j+1)).1],(xH b 2 ((c.toNat:Int) -48) (j+1)).2.1)
def BJ:Nat->Int->List UInt8->Nat->(List UInt8×Nat)⊕Int
 |0,_,_,_=>.inr (ym last)
 |f+1,deep,out,j=>match b[j]? with
  |none=>.inr (ym last)
  |some c=>
   if(c.toNat:Int)==92 then(match NH b last (j+1)with
    |.inr e=>.inr e
    |.inl (x,j')=>BJ f deep (out++x) j')
   else if(c.toNat:Int)==13 then(match b[j+1]? with
    |none=>if last then BJ f deep (out++[10]) (j+1)else .inr 6
    |some d=>if(d.toNat:Int)==10 then BJ f deep (out++[10]) (j+2)else BJ f deep (out++[10]) (j+1))
   else if(c.toNat:Int)==40 then BJ f (deep+1) (out++[c]) (j+1)
   else if(c.toNat:Int)==41 then(if deep -1==0 then .inl (out,j+1)else BJ f (deep -1) (out++[c]) (j+1))
   else BJ f deep (out++[c]) (j+1)
variable{b last}
theorem Sp:∀(k:Nat)(n:Int)(j:Nat),j<=b.length->j<=(xH b k n j).2.1/\(xH b k n j).2.1<=b.length/\(xH b k n j).2.1<=j+k/\((xH b k n j).2.2=true->(xH b k n j).2.1=b.length/\(xH b k n j).2.1<j+k)
 |0,n,j,h=>⟨Nat.le_refl _,h,Nat.le_refl _,fun e=>(by cases e)⟩
 |k+1,n,j,h=>by
  rw[xH]
  cases hx:b[j]? with
  |none=>
   have:=oA hx
   exact⟨Nat.le_refl _,h,by show j<=_;omega,fun _=>⟨by show j=_;omega,by show j<_;omega⟩⟩
  |some d=>
   have hl:=(cL hx).1
   simp only
   split
   ·exact⟨Nat.le_refl _,h,by show j<=_;omega,fun e=>(by cases e)⟩
   ·have:=Sp k (8*n+((d.toNat:Int) -48)) (j+1) (by omega)
    refine⟨by omega,by omega,by omega,fun e=>?_⟩
    have:=this.2.2.2 e
    omega
def okE(j n:Nat)(last:Bool):(List UInt8×Nat)⊕Int->Prop
 |.inl r=>j<r.2/\r.2<=n/\r.1.length<=1
 |.inr e=>e=ym last
theorem nj{j n:Nat}{last:Bool}{c:Prop}[Decidable c]{x y:(List UInt8×Nat)⊕Int}(h1:okE j n last x)(h2:¬c->okE j n last y):okE j n last (if c then x else y):=by
 split
 ·exact h1
 ·rename_i h;exact h2 h
theorem NI(j:Nat)(h:j<=b.length):okE j b.length last (NH b last j):=by
 unfold NH
 cases hx:b[j]? with
 |none=>exact rfl
 |some c=>
  have hl:=(cL hx).1
  have k1:∀x:List UInt8,x.length<=1->okE j b.length last (.inl (x,j+1)):=fun x hx=>⟨by show j<j+1;omega,by show j+1<=_;omega,hx⟩
  refine nj (k1 _ (by decide)) fun _=>nj (k1 _ (by decide)) fun _=>nj (k1 _ (by decide)) fun _=>nj (k1 _ (by decide)) fun _=>nj (k1 _ (by decide)) fun _=>nj (k1 _ (by decide)) fun _=>nj ?_ fun _=>nj (k1 _ (by simp)) fun _=>?_
  ·cases hy:b[j+1]? with
   |none=>
    cases last with
    |true=>exact⟨by show j<j+1;omega,by show j+1<=_;omega,Nat.zero_le _⟩
    |false=>exact rfl
   |some d=>
    have hl2:=(cL hy).1
    exact nj ⟨by show j<j+2;omega,by show j+2<=_;omega,Nat.zero_le _⟩ fun _=>k1 _ (by decide)
  ·have:=Sp (b:=b) 2 ((c.toNat:Int) -48) (j+1) (by omega)
   by_cases h1:((xH b 2 ((c.toNat:Int) -48) (j+1)).2.2&&!last)=true
   ·rw[if_pos h1]
    have:last=false:=by
     rw[Bool.and_eq_true]at h1
     simpa using h1.2
    rw[this];exact rfl
   ·rw[if_neg h1]
    exact⟨by show j<(xH b 2 ((c.toNat:Int) -48) (j+1)).2.1;omega,this.2.1,by simp⟩
theorem Vb(c:UInt8):(decide (Lib.indexByte [110,114,116,98,102] c>=0))=(((c.toNat:Int)==110)||(((c.toNat:Int)==114)||(((c.toNat:Int)==116)||(((c.toNat:Int)==98)||((c.toNat:Int)==102))))):=of_decide_eq_true (mK (fun c=>decide ((decide (Lib.indexByte [110,114,116,98,102] c>=0))=(((c.toNat:Int)==110)||(((c.toNat:Int)==114)||(((c.toNat:Int)==116)||(((c.toNat:Int)==98)||((c.toNat:Int)==102))))))) (by kernel_rfl) c)
theorem ZR(hb:b.length<1048576){u:Bool}{o:List UInt8}(ho:o.length<1048576)(c:UInt8)(hc:48<=(c.toNat:Int)/\(c.toNat:Int)<=55)(j:Nat)(hj:j<=b.length):
 ∃x,fD ⟨⟨u,true,⟨o⟩⟩,b,(j:Int),last⟩ c=some x/\(if(xH b 2 ((c.toNat:Int) -48) j).2.2&&!last then x.1=false/\x.2.az=last else x=(true,⟨⟨true,true,⟨o++[gX (xH b 2 ((c.toNat:Int) -48) j).1]⟩⟩,b,((xH b 2 ((c.toNat:Int) -48) j).2.1:Int),last⟩)):=by
 have cf:room=140737488355328:=rfl
 have e0:aw (((gX ((c.toNat:Int) -48)).toNat:Int))=(c.toNat:Int) -48:=by
  have:=of_decide_eq_true (mK (fun c=>decide (48<=(c.toNat:Int)->aw (((gX ((c.toNat:Int) -48)).toNat:Int))=(c.toNat:Int) -48)) (by kernel_rfl) c)
  exact this hc.1
 have dig:∀d:UInt8,¬(((decide ((d.toNat:Int)<48))||(decide ((d.toNat:Int)>55)))=true)->48<=(d.toNat:Int)/\(d.toNat:Int)<=55/\aw (((gX ((d.toNat:Int) -48)).toNat:Int))=(d.toNat:Int) -48:=fun d h=>by
  have h1:48<=(d.toNat:Int)/\(d.toNat:Int)<=55:=by simp at h;omega
  exact⟨h1.1,h1.2,of_decide_eq_true (mK (fun c=>decide (48<=(c.toNat:Int)->aw (((gX ((c.toNat:Int) -48)).toNat:Int))=(c.toNat:Int) -48)) (by kernel_rfl) d) h1.1⟩
 generalize hT:xH b 2 ((c.toNat:Int) -48) j=T
 unfold fD
 rw[e0]
 refine xe (fun(r:(Int×aq)⊕(Bool×aq))=>(r=.inl (T.1,⟨⟨u,true,⟨o⟩⟩,b,(T.2.1:Int),last⟩)/\T.2.2=false)\/(T.2.2=true/\(if last then r=.inr (true,⟨⟨true,true,⟨o++[gX T.1]⟩⟩,b,(T.2.1:Int),last⟩)else∃x,r=.inr (false,x)/\x.az=last))) (NJ (fun(r:(Int×aq)⊕(Bool×aq))=>(r=.inl (T.1,⟨⟨u,true,⟨o⟩⟩,b,(T.2.1:Int),last⟩)/\T.2.2=false)\/(T.2.2=true/\(if last then r=.inr (true,⟨⟨true,true,⟨o++[gX T.1]⟩⟩,b,(T.2.1:Int),last⟩)else∃x,r=.inr (false,x)/\x.az=last))) (fh (fun(s:Int×Int×aq)=>∃(i k:Nat),s.2.2=⟨⟨u,true,⟨o⟩⟩,b,(i:Int),last⟩/\i<=b.length/\k<=2/\s.2.1=2 -(k:Int)/\0<=s.1/\s.1<=511/\s.1<8^(3 -k)/\xH b k s.1 i=T) (fun s=>(2 -s.2.1).toNat)
  (fun(r:(Int×aq)⊕(Bool×aq))=>(r=.inl (T.1,⟨⟨u,true,⟨o⟩⟩,b,(T.2.1:Int),last⟩)/\T.2.2=false)\/(T.2.2=true/\(if last then r=.inr (true,⟨⟨true,true,⟨o++[gX T.1]⟩⟩,b,(T.2.1:Int),last⟩)else∃x,r=.inr (false,x)/\x.az=last)))
  ⟨j,2,rfl,hj,Nat.le_refl _,rfl,by show 0<=(c.toNat:Int) -48;omega,by show(c.toNat:Int) -48<=511;omega,by show(c.toNat:Int) -48<8;omega,hT⟩ (by show(2 -(0:Int)).toNat<_;decide) (by
    rintro⟨n,q,o7⟩ ⟨i,k,e,hi,hk,eq,n0,n1,n2,hs⟩
    have e:o7=⟨⟨u,true,⟨o⟩⟩,b,(i:Int),last⟩:=e
    have eq:q=2 -(k:Int):=eq
    subst e;subst eq
    have n0:0<=n:=n0
    have n1:n<=511:=n1
    have hs:xH b k n i=T:=hs
    cases k with
    |zero=>
     rw[xH]at hs
     subst hs
     exact⟨_,an (by simp) rfl,.inl ⟨rfl,rfl⟩⟩
    |succ k=>
     rw[xH]at hs
     have hlt:(decide (2 -((k+1:Nat):Int)<2))=true:=by simp;omega
     cases hx:b[i]? with
     |none=>
      rw[hx]at hs
      subst hs
      cases last with
      |true=>exact⟨_,aN hlt (aj (rn hx) (aN rfl (aN rfl (aj (Ex _ (by omega)) rfl)))),.inr ⟨rfl,by rw[if_pos rfl];rfl⟩⟩
      |false=>exact⟨_,aN hlt (aj (rn hx) (aN rfl (an nF rfl))),.inr ⟨rfl,by rw[if_neg (by decide)];exact⟨_,rfl,rfl⟩⟩⟩
     |some d=>
      obtain⟨hl,_⟩:=cL hx
      rw[hx]at hs
      simp only at hs
      by_cases hd:((decide ((d.toNat:Int)<48))||(decide ((d.toNat:Int)>55)))=true
      ·rw[if_pos hd]at hs
       subst hs
       exact⟨_,aN hlt (aj (eP hx) (an nT (aN hd rfl))),.inl ⟨rfl,rfl⟩⟩
      ·rw[if_neg hd]at hs
       obtain⟨d1,d2,d3⟩:=dig d hd
       have hw:=zB (n:=i) (by omega)
       have n2:n<8^(3 -(k+1)):=n2
       have hp:n<64/\8*n+((d.toNat:Int) -48)<8^(3 -k):=by
        rcases(show k=0\/k=1 by omega)with rfl|rfl
        ·have:n<64:=n2
         exact⟨this,by show _<(512:Int);omega⟩
        ·have:n<8:=n2
         exact⟨by omega,by show _<(64:Int);omega⟩
       have w8:aw ((aw (8*n))+(aw (((gX ((d.toNat:Int) -48)).toNat:Int))))=8*n+((d.toNat:Int) -48):=by rw[d3,ar (n:=8*n) (by omega) (by omega),ar (by omega) (by omega)]
       have wk:aw (2 -((k+1:Nat):Int)+1)=2 -(k:Int):=by rw[ar (by omega) (by omega)];omega
       refine⟨_,aN hlt (aj (eP hx) (an nT (an hd rfl))),⟨i+1,k,?_,by omega,by omega,wk,by show 0<=aw _;rw[w8];omega,by show aw _<=511;rw[w8];omega,by show aw _<_;rw[w8];exact hp.2,by show xH b k (aw _) (i+1)=T;rw[w8];exact hs⟩,?_⟩
       ·show(⟨_,b,aw ((i:Int)+1),last⟩:aq)=_
        rw[hw]
       ·show(2 -aw _).toNat<(2 -(2 -((k+1:Nat):Int))).toNat
        rw[wk];omega)) ?_) ?_
 ·rintro z (⟨rfl,h2⟩|⟨h2,h3⟩)
  ·exact⟨_,rfl,.inl ⟨rfl,h2⟩⟩
  ·cases last with
   |true=>
    rw[if_pos rfl]at h3
    subst h3
    exact⟨_,rfl,.inr ⟨h2,by rw[if_pos rfl]⟩⟩
   |false=>
    rw[if_neg nF]at h3
    obtain⟨x,rfl,hx⟩:=h3
    exact⟨_,rfl,.inr ⟨h2,by rw[if_neg nF];exact⟨x,rfl,hx⟩⟩⟩
 ·rintro z (⟨rfl,h2⟩|⟨h2,h3⟩)
  ·refine⟨_,aj (Ex _ (by omega)) rfl,?_⟩
   rw[h2,Bool.false_and,if_neg nF]
  ·cases last with
   |true=>
    rw[if_pos rfl]at h3
    subst h3
    refine⟨_,rfl,?_⟩
    rw[h2,Bool.not_true,Bool.and_false,if_neg nF]
   |false=>
    rw[if_neg nF]at h3
    obtain⟨x,rfl,hx⟩:=h3
    refine⟨_,rfl,?_⟩
    rw[h2,Bool.not_false,Bool.and_true,if_pos rfl]
    exact⟨rfl,hx⟩
end
section
variable{b:List UInt8}{last:Bool}
theorem XW(u:Bool)(o:List UInt8)(hb:b.length<1048576)(c:UInt8)(hc:((c.toNat:Int)==13)=true)(j:Nat)(hj:j<=b.length):
 cS ⟨⟨u,true,⟨o⟩⟩,b,(j:Int),last⟩ c=some (match b[j]? with
  |none=>(last,⟨⟨u,true,⟨o⟩⟩,b,(j:Int),last⟩)
  |some d=>(true,⟨⟨u,true,⟨o⟩⟩,b,if(d.toNat:Int)==10 then((j+1:Nat):Int)else(j:Int),last⟩)):=by
 unfold cS
 refine an (by have:(c.toNat:Int)=13:=by simpa using hc
               rw[this];decide) ?_
 cases hx:b[j]? with
 |none=>exact aj (rn hx) (dI (an (by decide) rfl) rfl)
 |some d=>
  have hl:=(cL hx).1
  by_cases hd:((d.toNat:Int)==10)=true
  ·simp only[hd,if_true]
   refine aj (eP hx) (dI (aN (by rw[hd];rfl) rfl) ?_)
   show some (true,(⟨_,b,aw ((j:Int)+1),last⟩:aq))=_
   rw[zB (by omega)]
  ·simp only[hd]
   exact aj (eP hx) (dI (an (by simpa using hd) rfl) rfl)
theorem Kz(hb:b.length<1048576){u:Bool}{o:List UInt8}(ho:o.length<1048576)(j:Nat){c y:UInt8}{i:Int}(hx:b[j]? =some c)(e:Lib.indexByte [110,114,116,98,102] c=i)(h0:0<=i/\i<5)(hy:ix ([10,13,9,8,12]:List UInt8) i=y):
 cF ⟨⟨u,true,⟨o⟩⟩,b,(j:Int),last⟩=some (true,⟨⟨true,true,⟨o++[y]⟩⟩,b,((j+1:Nat):Int),last⟩):=by
 have cf:room=140737488355328:=rfl
 have hl:=(cL hx).1
 unfold cF
 refine aj (eP hx) (an nT (aj (show cW _ c=some i by rw[<-e];rfl) (aN (by simpa using h0.1) (ay h0 (aj (Ex _ (by omega)) ?_)))))
 show some (true,(⟨⟨true,true,⟨o++[ix ([10,13,9,8,12]:List UInt8) i]⟩⟩,b,aw ((j:Int)+1),last⟩:aq))=_
 rw[zB (by omega),hy]
theorem Lr{c:UInt8}{n:Nat}(hn:n<256)(h:((c.toNat:Int)==(n:Int))=true):c=UInt8.ofNat n:=by
 have h:(c.toNat:Int)=(n:Int):=by simpa using h
 have h:c.toNat=n:=by omega
 rw[<-h];simp
def leR(b:List UInt8)(last:Bool)(o:List UInt8)(r:(List UInt8×Nat)⊕Int)(x:Bool×aq):Prop:=match r with
 |.inr _=>x.1=false/\x.2.az=last
 |.inl r=>∃u',x=(true,⟨⟨u',true,⟨o++r.1⟩⟩,b,(r.2:Int),last⟩)
theorem VA(hb:b.length<1048576){u:Bool}{o:List UInt8}(ho:o.length<1048576)(j:Nat)(hj:j<=b.length):
 ∃x,cF ⟨⟨u,true,⟨o⟩⟩,b,(j:Int),last⟩=some x/\leR b last o (NH b last j) x:=by
 have cf:room=140737488355328:=rfl
 unfold NH
 cases hx:b[j]? with
 |none=>
  unfold cF
  exact⟨_,aj (rn hx) (aN rfl rfl),rfl,rfl⟩
 |some c=>
  obtain⟨hl,_⟩:=cL hx
  have hw:=zB (n:=j) (by omega)
  have Zw:=Vb c
  simp only
  by_cases n1:((c.toNat:Int)==110)=true
  ·rw[if_pos n1]
   obtain rfl:c=110:=Lr (n:=110) (by decide) n1
   exact⟨_,Kz hb ho j hx (i:=0) rfl (by decide) rfl,true,rfl⟩
  rw[if_neg n1]
  by_cases n2:((c.toNat:Int)==114)=true
  ·rw[if_pos n2]
   obtain rfl:c=114:=Lr (n:=114) (by decide) n2
   exact⟨_,Kz hb ho j hx (i:=1) rfl (by decide) rfl,true,rfl⟩
  rw[if_neg n2]
  by_cases n3:((c.toNat:Int)==116)=true
  ·rw[if_pos n3]
   obtain rfl:c=116:=Lr (n:=116) (by decide) n3
   exact⟨_,Kz hb ho j hx (i:=2) rfl (by decide) rfl,true,rfl⟩
  rw[if_neg n3]
  by_cases n4:((c.toNat:Int)==98)=true
  ·rw[if_pos n4]
   obtain rfl:c=98:=Lr (n:=98) (by decide) n4
   exact⟨_,Kz hb ho j hx (i:=3) rfl (by decide) rfl,true,rfl⟩
  rw[if_neg n4]
  by_cases n5:((c.toNat:Int)==102)=true
  ·rw[if_pos n5]
   obtain rfl:c=102:=Lr (n:=102) (by decide) n5
   exact⟨_,Kz hb ho j hx (i:=4) rfl (by decide) rfl,true,rfl⟩
  rw[if_neg n5]
  have hi:¬(decide (Lib.indexByte [110,114,116,98,102] c>=0))=true:=by
   rw[Zw]
   simp only[Bool.or_eq_true,not_or]
   exact⟨n1,n2,n3,n4,n5⟩
  have start:∀{r:Option (Bool×aq)},(if((decide ((c.toNat:Int)>=48))&&(decide ((c.toNat:Int)<=55)))=true then aP (fD ⟨⟨u,true,⟨o⟩⟩,b,((j+1:Nat):Int),last⟩ c) fun r4=>some (r4.1,r4.2)
   else if(((c.toNat:Int)==10)||((c.toNat:Int)==13))=true then aP (cS ⟨⟨u,true,⟨o⟩⟩,b,((j+1:Nat):Int),last⟩ c) fun r5=>some (r5.1,r5.2)
   else aP (aE ⟨u,true,⟨o⟩⟩ c) fun r6=>some (true,(⟨r6.2,b,((j+1:Nat):Int),last⟩:aq)))=r->cF ⟨⟨u,true,⟨o⟩⟩,b,(j:Int),last⟩=r:=fun h=>by
   unfold cF
   refine aj (eP hx) (an nT (aj (show cW _ c=some _ from rfl) (an hi ?_)))
   rw[<-hw]at h
   exact h
  by_cases n10:((c.toNat:Int)==10)=true
  ·rw[if_pos n10]
   have hc:(c.toNat:Int)=10:=by simpa using n10
   refine⟨_,start (an (by rw[hc];decide) (aN (by rw[n10];rfl) (aj (aN (by rw[hc];decide) rfl) rfl))),u,?_⟩
   show _=(true,(⟨⟨u,true,⟨o++[]⟩⟩,b,((j+1:Nat):Int),last⟩:aq))
   rw[List.append_nil]
  rw[if_neg n10]
  by_cases n13:((c.toNat:Int)==13)=true
  ·rw[if_pos n13]
   have hc:(c.toNat:Int)=13:=by simpa using n13
   refine⟨_,start (an (by rw[hc];decide) (aN (by rw[n13,Bool.or_true]) (aj (XW u o hb c n13 (j+1) (by omega)) rfl))),?_⟩
   cases hy:b[j+1]? with
   |none=>
    cases last with
    |true=>exact⟨u,by show _=(true,(⟨⟨u,true,⟨o++[]⟩⟩,b,((j+1:Nat):Int),true⟩:aq));rw[List.append_nil]⟩
    |false=>exact⟨rfl,rfl⟩
   |some d=>
    simp only
    by_cases hd:((d.toNat:Int)==10)=true
    ·rw[if_pos hd,if_pos hd]
     exact⟨u,by show _=(true,(⟨⟨u,true,⟨o++[]⟩⟩,b,((j+2:Nat):Int),last⟩:aq));rw[List.append_nil]⟩
    ·rw[if_neg hd,if_neg hd]
     exact⟨u,by show _=(true,(⟨⟨u,true,⟨o++[]⟩⟩,b,((j+1:Nat):Int),last⟩:aq));rw[List.append_nil]⟩
  rw[if_neg n13]
  by_cases no:((decide ((c.toNat:Int)<48))||(decide ((c.toNat:Int)>55)))=true
  ·rw[if_pos no]
   exact⟨_,start (an (by simp at no⊢;omega) (an (by simp at n10 n13⊢;exact⟨n10,n13⟩) (aj (Ex _ (by omega)) rfl))),true,rfl⟩
  ·rw[if_neg no]
   have hc:48<=(c.toNat:Int)/\(c.toNat:Int)<=55:=by simp at no;omega
   obtain⟨x,h1,h2⟩:=ZR (last:=last) hb (u:=u) ho c hc (j+1) (by omega)
   refine⟨x,start (aN (by simp;omega) (aj h1 rfl)),?_⟩
   by_cases h:((xH b 2 ((c.toNat:Int) -48) (j+1)).2.2&&!last)=true
   ·rw[if_pos h]at h2⊢
    exact h2
   ·rw[if_neg h]at h2⊢
    exact⟨true,h2⟩
theorem aew(hb:b.length<1048576)(u:Bool)(k:Nat)(hk:k<=b.length):∃x,gn ⟨⟨u,true,⟨[]⟩⟩,b,(k:Int),last⟩=some x/\Qi (BJ b last (b.length+1) 1 [] k) x:=by
 have cf:room=140737488355328:=rfl
 generalize hT:BJ b last (b.length+1) 1 [] k=T
 unfold gn
 refine fh (fun(s:Int×aq)=>∃(j f:Nat)(u:Bool)(o:List UInt8),s.2=⟨⟨u,true,⟨o⟩⟩,b,(j:Int),last⟩/\j<=b.length/\b.length -j+1<=f/\o.length<=j/\1<=s.1/\s.1<=(j:Int)+1/\BJ b last f s.1 o j=T) (fun s=>b.length -s.2.at_.toNat) (Qi T) ⟨k,b.length+1,u,[],rfl,hk,by omega,Nat.zero_le _,by show(1:Int)<=1;decide,by show(1:Int)<=(k:Int)+1;omega,hT⟩ (by show b.length -_<_;omega) ?_
 rintro⟨deep,o2⟩ ⟨j,f,u,o,e,hj,hf,ho,d1,d2,hs⟩
 have e:o2=⟨⟨u,true,⟨o⟩⟩,b,(j:Int),last⟩:=e
 subst e
 have d1:1<=deep:=d1
 have d2:deep<=(j:Int)+1:=d2
 have hs:BJ b last f deep o j=T:=hs
 obtain⟨f,rfl⟩:∃g,f=g+1:=⟨f -1,by omega⟩
 rw[BJ]at hs
 cases hx:b[j]? with
 |none=>
  rw[hx]at hs
  refine⟨_,aj (rn hx) (aN rfl (aj (Oc ..) rfl)),?_⟩
  show Qi T _
  rw[<-hs]
  exact rfl
 |some c=>
  obtain⟨hl,hi⟩:=cL hx
  rw[hx]at hs
  simp only at hs
  have hw:=zB (n:=j) (by omega)
  have aeH:∀j':Nat,j<j'->b.length -((j':Nat):Int).toNat<b.length -(j:Int).toNat:=fun j' h=>by omega
  have put:∀(d:Int)(c:UInt8)(j':Nat),1<=d->d<=(j':Int)+1->j<j'->j'<=b.length->BJ b last f d (o++[c]) j'=T->
   ∃t,(if(d==0)=true then aP (bk ⟨u,true,⟨o⟩⟩) fun r22=>some (Sum.inr ((⟨4,0,r22.1,[]⟩:aa),(0:Int),(⟨r22.2,b,((j':Nat):Int),last⟩:aq)))else aP (aE ⟨u,true,⟨o⟩⟩ c) fun r23=>some (Sum.inl (d,(⟨r23.2,b,((j':Nat):Int),last⟩:aq))))=some (Sum.inl t)/\
    (∃(j f:Nat)(u:Bool)(o:List UInt8),t.2=⟨⟨u,true,⟨o⟩⟩,b,(j:Int),last⟩/\j<=b.length/\b.length -j+1<=f/\o.length<=j/\1<=t.1/\t.1<=(j:Int)+1/\BJ b last f t.1 o j=T)/\b.length -t.2.at_.toNat<b.length -(j:Int).toNat:=fun d c j' h1 h2 h3 h4 h5=>by
   have hd:¬(d==0)=true:=by simp;omega
   refine⟨_,an hd (aj (Ex _ (by omega)) rfl),⟨j',f,true,o++[c],rfl,h4,by omega,by simp;omega,h1,h2,h5⟩,aeH j' h3⟩
  by_cases n92:((c.toNat:Int)==92)=true
  ·rw[if_pos n92]at hs
   obtain⟨x,x1,x2⟩:=VA (last:=last) hb (u:=u) (o:=o) (by omega) (j+1) (by omega)
   have hp:=NI (b:=b) (last:=last) (j+1) (by omega)
   cases hes:NH b last (j+1)with
   |inr e=>
    rw[hes]at hs x2 hp
    simp only at hs
    obtain⟨y1,y2⟩:=x2
    have hp:e=ym last:=hp
    have ho2:cC x.2=some (ym last):=by rw[<-y2];obtain⟨_,⟨_,_,_,l⟩⟩:=x;cases l<;>rfl
    refine⟨_,aj (eP hx) (an nT (di (aN n92 (aj (by show cF ⟨_,b,aw ((j:Int)+1),last⟩=some x;rw[hw];exact x1) (aN (by rw[y1];rfl) (aj ho2 rfl)))) rfl)),?_⟩
    show Qi T _
    rw[<-hs,hp]
    exact rfl
   |inl r=>
    rw[hes]at hs x2 hp
    simp only at hs
    obtain⟨u',rfl⟩:=x2
    obtain⟨p1,p2,p3⟩:=hp
    refine⟨_,aj (eP hx) (an nT (di (aN n92 (aj (by show cF ⟨_,b,aw ((j:Int)+1),last⟩=_;rw[hw];exact x1) (an nT rfl))) rfl)),⟨r.2,f,u',o++r.1,rfl,p2,by omega,by simp;omega,d1,by omega,hs⟩,aeH r.2 (by omega)⟩
  ·rw[if_neg n92]at hs
   by_cases n13:((c.toNat:Int)==13)=true
   ·rw[if_pos n13]at hs
    have yH:=XW (last:=last) u o hb c n13 (j+1) (by omega)
    cases hy:b[j+1]? with
    |none=>
     rw[hy]at hs yH
     cases last with
     |false=>
      refine⟨_,aj (eP hx) (an nT (di (an n92 (aN n13 (aj (by show cS ⟨_,b,aw ((j:Int)+1),_⟩ c=_;rw[hw];exact yH) (aN rfl (aj (Oc ..) rfl))))) rfl)),?_⟩
      show Qi T _
      rw[<-hs]
      exact rfl
     |true=>
      obtain⟨t,q1,q2,q3⟩:=put deep 10 (j+1) d1 (by omega) (by omega) (by omega) hs
      exact⟨.inl t,aj (eP hx) (an nT (di (an n92 (aN n13 (aj (by show cS ⟨_,b,aw ((j:Int)+1),_⟩ c=_;rw[hw];exact yH) (an nT rfl)))) q1)),q2,q3⟩
    |some d=>
     rw[hy]at hs yH
     simp only at hs yH
     have hl2:=(cL hy).1
     by_cases hd:((d.toNat:Int)==10)=true
     ·rw[if_pos hd]at hs yH
      obtain⟨t,q1,q2,q3⟩:=put deep 10 (j+2) d1 (by omega) (by omega) (by omega) hs
      exact⟨.inl t,aj (eP hx) (an nT (di (an n92 (aN n13 (aj (by show cS ⟨_,b,aw ((j:Int)+1),_⟩ c=_;rw[hw];exact yH) (an nT rfl)))) q1)),q2,q3⟩
     ·rw[if_neg hd]at hs yH
      obtain⟨t,q1,q2,q3⟩:=put deep 10 (j+1) d1 (by omega) (by omega) (by omega) hs
      exact⟨.inl t,aj (eP hx) (an nT (di (an n92 (aN n13 (aj (by show cS ⟨_,b,aw ((j:Int)+1),_⟩ c=_;rw[hw];exact yH) (an nT rfl)))) q1)),q2,q3⟩
   ·rw[if_neg n13]at hs
    by_cases n40:((c.toNat:Int)==40)=true
    ·rw[if_pos n40]at hs
     have wd:aw (deep+1)=deep+1:=ar (by omega) (by omega)
     obtain⟨t,q1,q2,q3⟩:=put (deep+1) c (j+1) (by omega) (by omega) (by omega) (by omega) hs
     rw[<-hw,<-wd]at q1
     exact⟨.inl t,aj (eP hx) (an nT (di (an n92 (an n13 (aN n40 rfl))) q1)),q2,q3⟩
    ·rw[if_neg n40]at hs
     by_cases n41:((c.toNat:Int)==41)=true
     ·rw[if_pos n41]at hs
      have wd:aw (deep -1)=deep -1:=ar (by omega) (by omega)
      by_cases h0:(deep -1==0)=true
      ·rw[if_pos h0]at hs
       refine⟨_,aj (eP hx) (an nT (di (an n92 (an n13 (an n40 (aN n41 rfl)))) (aN (by rw[wd];exact h0) (aj (YR (by omega)) rfl)))),?_⟩
       show Qi T _
       rw[<-hs]
       exact⟨rfl,rfl,hw⟩
      ·rw[if_neg h0]at hs
       obtain⟨t,q1,q2,q3⟩:=put (deep -1) c (j+1) (by simp at h0;omega) (by omega) (by omega) (by omega) hs
       rw[<-hw,<-wd]at q1
       exact⟨.inl t,aj (eP hx) (an nT (di (an n92 (an n13 (an n40 (aN n41 rfl)))) q1)),q2,q3⟩
     ·rw[if_neg n41]at hs
      obtain⟨t,q1,q2,q3⟩:=put deep c (j+1) d1 (by omega) (by omega) (by omega) hs
      rw[<-hw]at q1
      exact⟨.inl t,aj (eP hx) (an nT (di (an n92 (an n13 (an n40 (an n41 rfl)))) q1)),q2,q3⟩
end
section
variable{b:List UInt8}{last:Bool}
end
section
variable(w:List UInt8)
def VN:Nat->List UInt8->Nat->List UInt8⊕Int
 |0,out,_=>.inl out
 |f+1,out,i=>match w[i]? with
  |none=>.inl out
  |some c=>if(c.toNat:Int)==35 then(match w[i+2]? with
    |none=>.inr 17
    |some y=>match w[i+1]? with
     |none=>.inr 17
     |some x=>if decide (Gk x<0)||decide (Gk y<0)then .inr 17 else VN f (out++[gX (aw (aw (16*Gk x)+Gk y))]) (i+3))
   else VN f (out++[c]) (i+1)
def VM(o:List UInt8):aa×Int:=if decide ((o.length:Int)>127)||decide (Lib.indexByte o 0>=0)then(⟨0,0,⟨[]⟩,[]⟩,17)else(⟨5,0,⟨o⟩,[]⟩,0)
def T9:aa×Int:=match VN w (w.length+1) [] 0 with
 |.inr e=>(⟨0,0,⟨[]⟩,[]⟩,e)
 |.inl o=>VM o
variable{w}
theorem aeu(hb:w.length<1048576):mf ⟨w⟩=some (T9 w):=by
 have cf:room=140737488355328:=rfl
 have key:∃x,mf ⟨w⟩=some x/\x=T9 w:=by
  unfold mf
  unfold T9
  generalize hT:VN w (w.length+1) [] 0=T
  refine xe (fun z=>z=T) (NJ (fun z=>z=T) (fh (fun(s:List UInt8×Int)=>∃(j f:Nat),s.2=(j:Int)/\j<=w.length/\w.length -j+1<=f/\s.1.length<=j/\VN w f s.1 j=T) (fun s=>w.length -s.2.toNat) _
   ⟨0,w.length+1,rfl,Nat.zero_le _,by omega,Nat.zero_le _,hT⟩ (by show w.length -_<_;omega) ?_) ?_) ?_
  ·rintro⟨o,a⟩ ⟨j,f,e,hj,hf,ho,hs⟩
   have e:a=(j:Int):=e
   subst e
   have ho:o.length<=j:=ho
   have hs:VN w f o j=T:=hs
   obtain⟨f,rfl⟩:∃g,f=g+1:=⟨f -1,by omega⟩
   rw[VN]at hs
   cases hx:w[j]? with
   |none=>
    have:=oA hx
    rw[hx]at hs
    exact⟨_,an (by simp;omega) rfl,hs⟩
   |some c=>
    obtain⟨hl,hi⟩:=cL hx
    rw[hx]at hs
    simp only at hs
    have w1:aw ((j:Int)+1)=((j+1:Nat):Int):=zB (by omega)
    have w2:aw ((j:Int)+2)=((j+2:Nat):Int):=by rw[ar (by omega) (by omega)];rfl
    have w3:aw (((j+2:Nat):Int)+1)=((j+3:Nat):Int):=zB (by omega)
    have gd:(decide ((j:Int)<(w.length:Int)))=true:=by simp;omega
    have np:0<=(j:Int)/\(j:Int)<w.length:=by omega
    simp only[hi,w1,w2]
    by_cases n35:((c.toNat:Int)==35)=true
    ·rw[if_pos n35]at hs
     cases hy:w[j+2]? with
     |none=>
      have hl2:=oA hy
      rw[hy]at hs
      have dg:decide (((j+2:Nat):Int)>=(w.length:Int))=true:=by simp;omega
      refine⟨_,aN gd (ay np (di (aN n35 (ay (by rw[dg];simp) (aj (whn (by rw[dg];rfl)) (ay (by rw[dg];simp) (aj (whn (by rw[dg];rfl)) (aN (by rw[dg];rfl) rfl)))))) rfl)),hs⟩
     |some y=>
      obtain⟨hl2,hi2⟩:=cL hy
      rw[hy]at hs
      obtain⟨x,hz⟩:∃x,w[j+1]? =some x:=⟨w[j+1],List.getElem?_eq_getElem (by omega)⟩
      obtain⟨hl3,hi3⟩:=cL hz
      rw[hz]at hs
      simp only at hs
      have dg:decide (((j+2:Nat):Int)>=(w.length:Int))=false:=by simp;omega
      simp only[hi2,hi3,dg,Bool.false_or,Bool.not_false]
      by_cases hxn:Gk x<0
      ·rw[if_pos (by simp;exact .inl hxn)]at hs
       exact⟨_,aN gd (ay np (di (aN n35 (ay (by omega) (aj (Ac x) (ay (by omega) (aj (whn (by simpa using hxn)) (aN (by simp;omega) rfl)))))) rfl)),hs⟩
      ·have dx:decide (Gk x<0)=false:=by simpa using hxn
       by_cases hyn:Gk y<0
       ·rw[if_pos (by simp;exact .inr hyn)]at hs
        exact⟨_,aN gd (ay np (di (aN n35 (ay (by omega) (aj (Ac x) (ay (by omega) (aj (by rw[dx];exact Ac y) (aN (by simp;exact .inr hyn) rfl)))))) rfl)),hs⟩
       ·rw[if_neg (by simp;omega)]at hs
        refine⟨_,aN gd (ay np (di (aN n35 (ay (by omega) (aj (Ac x) (ay (by omega) (aj (by rw[dx];exact Ac y) (an (by simp;omega) (ay (by omega) (aj (Ac x) (ay (by omega) (aj (Ac y) rfl)))))))))) (ay (by simp;omega) rfl))),⟨j+3,f,w3,by omega,by omega,by show(o++_).length<=_;simp;omega,hs⟩,?_⟩
        show w.length -(aw _).toNat<w.length -(j:Int).toNat
        rw[w3];omega
    ·rw[if_neg n35]at hs
     refine⟨_,aN gd (ay np (di (an n35 rfl) (ay (by simp;omega) rfl))),⟨j+1,f,w1,by omega,by omega,by show(o++_).length<=_;simp;omega,hs⟩,?_⟩
     show w.length -(aw _).toNat<w.length -(j:Int).toNat
     rw[w1];omega
  ·rintro z rfl
   cases z with
   |inl o=>exact⟨_,rfl,rfl⟩
   |inr e=>exact⟨_,rfl,rfl⟩
  ·rintro z rfl
   cases z with
   |inr e=>exact⟨_,rfl,rfl⟩
   |inl o=>
    show∃x,(aP (en (!(decide ((o.length:Int)>127))) 0 (ep o 0)) fun r22=>_)=some x/\x=VM o
    unfold VM
    cases hd:decide ((o.length:Int)>127)with
    |true=>exact⟨_,aj (whn rfl) (aN rfl rfl),by rw[Bool.true_or,if_pos rfl]⟩
    |false=>
     rw[Bool.not_false,Bool.false_or]
     by_cases h:(decide (Lib.indexByte o 0>=0))=true
     ·exact⟨_,aj (show en true 0 (ep o 0)=some _ from rfl) (aN h rfl),by rw[if_pos h]⟩
     ·exact⟨_,aj (show en true 0 (ep o 0)=some _ from rfl) (an h rfl),by rw[if_neg h]⟩
 obtain⟨x,h1,rfl⟩:=key
 exact h1
end
def pM:List UInt8->List UInt8×Option (List UInt8)
 |[]=>([],none)
 |c::l=>if(c.toNat:Int)==46 then([],some l)else(c::(pM l).1,(pM l).2)
theorem HB:∀(l:List UInt8),(match(pM l).2 with
 |none=>Lib.indexByte l 46=-1/\(pM l).1=l
 |some r=>Lib.indexByte l 46=((pM l).1.length:Int)/\l=(pM l).1++46::r)
 |[]=>⟨rfl,rfl⟩
 |c::l=>by
  have e:(c==46)=((c.toNat:Int)==46):=of_decide_eq_true (mK (fun c=>decide ((c==46)=((c.toNat:Int)==46))) (by kernel_rfl) c)
  have ih:=HB l
  rw[pM,Lib.indexByte,e]
  grind
theorem QL(l:List UInt8):(pM l).1.length+((pM l).2.getD []).length<=l.length:=by
 have:=HB l
 grind
def ED:Nat->List UInt8->Int
 |0,_=>0
 |k+1,l=>(match l with
  |[]=>0
  |c::l=>((c.toNat:Int) -48)*10^k+ED k l)
theorem On:∀(k:Nat)(l:List UInt8),l.all fg=true->0<=ED k l/\ED k l<10^k
 |0,_,_=>⟨Int.le_refl _,by show(0:Int)<1;decide⟩
 |k+1,[],_=>⟨Int.le_refl _,by show(0:Int)<_;exact Int.pow_pos (by decide)⟩
 |k+1,c::l,h=>by
  rw[List.all_cons,Bool.and_eq_true]at h
  have ih:=On k l h.2
  have hd:48<=(c.toNat:Int)/\(c.toNat:Int)<=57:=by have:=h.1;unfold fg at this;simp at this;omega
  show 0<=((c.toNat:Int) -48)*10^k+ED k l/\((c.toNat:Int) -48)*10^k+ED k l<_
  have hp:(0:Int)<10^k:=Int.pow_pos (by decide)
  have e:(10:Int)^(k+1)=10*10^k:=by rw[Int.pow_succ,Int.mul_comm]
  rw[e]
  have h1:0<=((c.toNat:Int) -48)*10^k:=Int.mul_nonneg (by omega) (by omega)
  have h2:((c.toNat:Int) -48)*10^k<=9*10^k:=Int.mul_le_mul_of_nonneg_right (by omega) (by omega)
  omega
theorem Co:∀(l:List UInt8)(n:Int),0<=n->l.all fg=true->l.length<=6->(n+1)*10^l.length<=1000000->m9 l (n,false)=(n*10^l.length+ED l.length l,0)
 |[],n,_,_,_,_=>by show(n,(0:Int))=(n*1+0,0);grind
 |c::l,n,h0,h,hl,hb=>by
  rw[List.all_cons,Bool.and_eq_true]at h
  have hd:48<=(c.toNat:Int)/\(c.toNat:Int)<=57:=by have:=h.1;unfold fg at this;simp at this;omega
  have hp:(0:Int)<10^l.length:=Int.pow_pos (by decide)
  have e:(10:Int)^(l.length+1)=10*10^l.length:=by rw[Int.pow_succ,Int.mul_comm]
  rw[List.length_cons,e]at hb
  have hb':(10*n+((c.toNat:Int) -48)+1)*10^l.length<=1000000:=by
   refine Int.le_trans (Int.mul_le_mul_of_nonneg_right (c:=10^l.length) (show 10*n+((c.toNat:Int) -48)+1<=(n+1)*10 by omega) (by omega)) ?_
   rw[Int.mul_assoc];exact hb
  have hn:n<=1000000:=by
   have:n+1<=(n+1)*(10*10^l.length):=by
    have:(n+1)*1<=(n+1)*(10*10^l.length):=Int.mul_le_mul_of_nonneg_left (by omega) (by omega)
    omega
   omega
  have hs:qX (n,false) c=(10*n+((c.toNat:Int) -48),false):=by
   unfold qX
   have:decide (n>(2147483647 -((c.toNat:Int) -48)).tdiv 10)=false:=by
    rw[decide_eq_false_iff_not,Int.tdiv_eq_ediv_of_nonneg (by omega)]
    omega
   simp[this]
  rw[m9,if_pos h.1,hs,Co l _ (by omega) h.2 (by grind) hb',List.length_cons,e]
  grind [ED,Int.add_mul,Int.mul_comm,Int.mul_assoc]
theorem Om:∀(k:Nat)(l:List UInt8),ED k ((l++List.replicate k 48).take k)=ED k l
 |0,_=>rfl
 |k+1,[]=>by
  have z:∀(k m:Nat),ED k (List.replicate m (48:UInt8))=0:=by
   intro k
   induction k with
   |zero=>intro m;rfl
   |succ k ih=>
    intro m
    cases m with
    |zero=>rfl
    |succ m=>grind [ED,List.replicate]
  grind
 |k+1,c::l=>by
  rw[List.cons_append,List.take_succ_cons]
  show((c.toNat:Int) -48)*10^k+ED k ((l++List.replicate (k+1) 48).take k)=((c.toNat:Int) -48)*10^k+ED k l
  congr 1
  rw[<-Om k l,List.replicate_succ',<-List.append_assoc,List.take_append_of_le_length (by simp)]
def nuW(sg:Int)(wh:List UInt8)(ro:Option (List UInt8)):aa×Int:=
 if(wh.length+(ro.getD []).length==0)||!wh.all fg||!(ro.getD []).all fg then(⟨0,0,⟨[]⟩,[]⟩,11)
 else if(m9 wh (0,false)).2 !=0 then(⟨0,0,⟨[]⟩,[]⟩,5)
 else match ro with
  |none=>(⟨2,sg*(m9 wh (0,false)).1,⟨[]⟩,[]⟩,0)
  |some r=>if(m9 wh (0,false)).1*1000000+ED 6 r>2147483647000000 then(⟨0,0,⟨[]⟩,[]⟩,5)else(⟨3,sg*((m9 wh (0,false)).1*1000000+ED 6 r),⟨[]⟩,[]⟩,0)
def nuB(sg:Int)(body:List UInt8):aa×Int:=nuW sg (pM body).1 (pM body).2
def Qj(s:List UInt8):aa×Int:=match s with
 |[]=>nuB 1 []
 |c::r=>if(c.toNat:Int)==45 then nuB (-1) r else if(c.toNat:Int)==43 then nuB 1 r else nuB 1 (c::r)
theorem JN:∀(l:List UInt8)(n:Int)(o:Bool),0<=n->n<=2147483647->l.all fg=true->0<=(m9 l (n,o)).1/\(m9 l (n,o)).1<=2147483647/\((m9 l (n,o)).2=0\/(m9 l (n,o)).2=5)
 |[],n,o,h0,h1,_=>by
  rw[m9]
  grind
 |c::l,n,o,h0,h1,h=>by
  rw[List.all_cons,Bool.and_eq_true]at h
  have hd:48<=(c.toNat:Int)/\(c.toNat:Int)<=57:=by have:=h.1;unfold fg at this;simp at this;omega
  rw[m9,if_pos h.1]
  cases hs:qX (n,o) c with
  |mk m p=>
   have hm:0<=m/\m<=2147483647:=by
    unfold qX at hs
    simp only at hs
    split at hs
    ·grind
    ·grind
   exact JN l m p hm.1 hm.2 h.2
theorem UZ(s:List UInt8)(x:UInt8):cy ⟨s⟩ ⟨[x]⟩=some (match s with
 |[]=>false
 |c::_=>c==x):=by
 unfold cy cc
 cases s with
 |nil=>simp_all
 |cons c r=>
  refine aj (ay (by simp) rfl) ?_
  have e1:decide ((((⟨c::r⟩:aH).b.length:Nat):Int)>=(((⟨[x]⟩:aH).b.length:Nat):Int))=true:=by simp;omega
  have e2:(aH.mk (part (c::r) 0 ((((⟨[x]⟩:aH).b.length:Nat):Int)))).b=[c]:=by unfold part;simp
  simp_all
theorem Y0(body:List UInt8)(hb:body.length<1048576):iZ ⟨body⟩ ⟨[46]⟩=some (⟨(pM body).1⟩,⟨(pM body).2.getD []⟩,(pM body).2.isSome):=by
 unfold iZ cQ
 have Zw:eX ⟨body⟩ ⟨[46]⟩=some (Lib.indexByte body 46):=rfl
 have:=HB body
 refine aj (a:=(⟨(pM body).1⟩,⟨(pM body).2.getD []⟩,(pM body).2.isSome)) (aj Zw ?_) rfl
 cases h:(pM body).2 with
 |none=>grind
 |some r=>
  rw[h]at this
  obtain⟨i1,i2⟩:=this
  have hl:=congrArg List.length i2
  rw[List.length_append,List.length_cons]at hl
  rw[i1]
  generalize(pM body).1=wh at*
  have w1:aw ((wh.length:Int)+(((⟨[46]⟩:aH).b.length:Nat):Int))=((wh.length+1:Nat):Int):=by
   show aw ((wh.length:Int)+1)=_
   exact zB (by omega)
  rw[w1]
  refine aN (by simp) (ay (by grind) (ay (by grind) ?_))
  have p1:part body 0 (wh.length:Int)=wh:=by
   unfold part
   rw[show(0:Int).toNat=0 from rfl,List.drop_zero,Int.sub_zero,Int.toNat_natCast]
   conv=>lhs;rw[i2]
   exact List.take_left
  have p2:part body ((wh.length+1:Nat):Int) (body.length:Int)=r:=by
   unfold part
   rw[Int.toNat_natCast,show((body.length:Int) -((wh.length+1:Nat):Int)).toNat=r.length by omega]
   conv=>lhs;rw[i2]
   rw[List.drop_append,List.drop_eq_nil_of_le (by omega),List.nil_append,show wh.length+1 -wh.length=1 by omega]
   show(r.take r.length)=r
   exact List.take_length
  grind
theorem nb0(k:Nat):((k:Int)==0)=(k==0):=by grind
theorem aaf(r:List UInt8)(hb:r.length<1048576)(h:r.all fg=true):fE ⟨r⟩=some (ED 6 r):=by
 unfold fE
 have hl:((aH.mk (r++(aH.mk [48,48,48,48,48,48]).b)).b).length=r.length+6:=by simp
 have e:(aH.mk (part (aH.mk (r++(aH.mk [48,48,48,48,48,48]).b)).b 0 6)).b=(r++List.replicate 6 48).take 6:=by unfold part;rfl
 refine ay (by grind [Ka]) (ay ⟨Int.le_refl _,by decide,by grind⟩ (aj (a:=(ED 6 r,0)) ?_ rfl))
 unfold jN
 rw[e]
 have hlen:((r++List.replicate 6 48).take 6).length=6:=by simp
 have eD:((r++List.replicate 6 48).take 6).all fg=true:=by
  rw[List.all_eq_true]
  intro x hx
  rcases List.mem_append.1 (List.mem_of_mem_take hx)with h1|h1
  ·grind
  ·rw[(List.mem_replicate.1 h1).2];rfl
 rw[if_neg (by grind),Co _ 0 (Int.le_refl _) eD (by omega) (by grind),hlen,Om]
 simp
theorem So{s:List UInt8}{F:Int×aH->Option (aa×Int)}{o:Option (Int×aH)}{sg:Int}{body:List UInt8}{r:aa×Int}(h:o=some (sg,⟨body⟩))(k:F (sg,⟨body⟩)=some r)(e:Qj s=r):jn o F=some (Qj s):=by simp_all
theorem air(s:List UInt8)(hb:s.length<1048576):lE ⟨s⟩=some (Qj s):=by
 unfold lE
 obtain⟨sg,body,h1,h2,h3,h4⟩:∃(sg:Int)(body:List UInt8),(aP (cy ⟨s⟩ (aH.mk [45])) fun r4=>
  if r4 then
   aL (0<=(1:Int)/\1<=(((⟨s⟩:aH).b.length:Nat):Int)/\(((⟨s⟩:aH).b.length:Nat):Int)<=(((⟨s⟩:aH).b.length:Nat):Int))<|
   some ((-1),aH.mk (part s 1 (s.length:Int)))
  else
   aP (cy ⟨s⟩ (aH.mk [43])) fun r5=>
   if r5 then
    aL (0<=(1:Int)/\1<=(((⟨s⟩:aH).b.length:Nat):Int)/\(((⟨s⟩:aH).b.length:Nat):Int)<=(((⟨s⟩:aH).b.length:Nat):Int))<|
    some (1,aH.mk (part s 1 (s.length:Int)))
   else
    some (1,⟨s⟩))=some (sg,⟨body⟩)/\Qj s=nuB sg body/\(sg=1\/sg=-1)/\body.length<=s.length:=by
  cases s with
  |nil=>exact⟨1,[],aj (UZ [] 45) (an nF (aj (UZ [] 43) (an nF rfl))),rfl,.inl rfl,Nat.le_refl _⟩
  |cons c r=>
   have e45:(c==45)=((c.toNat:Int)==45):=of_decide_eq_true (mK (fun c=>decide ((c==45)=((c.toNat:Int)==45))) (by kernel_rfl) c)
   have e43:(c==43)=((c.toNat:Int)==43):=of_decide_eq_true (mK (fun c=>decide ((c==43)=((c.toNat:Int)==43))) (by kernel_rfl) c)
   have pr:part (c::r) 1 ((c::r).length:Int)=r:=by
    unfold part
    rw[show(1:Int).toNat=1 from rfl,List.length_cons,show(((r.length+1:Nat):Int) -1).toNat=r.length by omega]
    show r.take r.length=r
    exact List.take_length
   have nd:0<=(1:Int)/\1<=(((c::r).length:Nat):Int)/\(((c::r).length:Nat):Int)<=(((c::r).length:Nat):Int):=by rw[List.length_cons];omega
   have h45:=UZ (c::r) 45
   have h43:=UZ (c::r) 43
   simp only[e45]at h45
   simp only[e43]at h43
   by_cases c45:((c.toNat:Int)==45)=true
   ·refine⟨-1,r,aj h45 (aN c45 (ay nd ?_)),by unfold Qj;grind,.inr rfl,by simp⟩
    rw[pr]
   ·by_cases c43:((c.toNat:Int)==43)=true
    ·refine⟨1,r,aj h45 (an c45 (aj h43 (aN c43 (ay nd ?_)))),by unfold Qj;grind,.inl rfl,by simp⟩
     rw[pr]
    ·exact⟨1,c::r,aj h45 (an c45 (aj h43 (an c43 rfl))),by unfold Qj;grind,.inl rfl,Nat.le_refl _⟩
 refine So (r:=nuB sg body) h1 ?_ h2
 refine aj (Y0 body (by omega)) ?_
 have hlen:=QL body
 unfold nuB
 generalize hwr:pM body=q at hlen
 obtain⟨wh,ro⟩:=q
 show(aP (en (!((aw ((wh.length:Int)+((ro.getD []).length:Int)))==0)) false (lK ⟨wh⟩)) _)=some (nuW sg wh ro)
 unfold nuW
 have wl:aw ((wh.length:Int)+((ro.getD []).length:Int))=((wh.length+(ro.getD []).length:Nat):Int):=by
  have hlen:wh.length+(ro.getD []).length<=body.length:=hlen
  rw[ar (by omega) (by omega)];rfl
 have hlen:wh.length+(ro.getD []).length<=body.length:=hlen
 have wz:((aw ((wh.length:Int)+((ro.getD []).length:Int)))==0)=((wh.length+(ro.getD []).length)==0):=by rw[wl];exact nb0 _
 simp only[wz]
 cases hz:((wh.length+(ro.getD []).length)==0)with
 |true=>simp_all
 |false=>
  rw[Bool.false_or,Bool.not_false,Jh]
  refine aj (show lK ⟨wh⟩=some (wh.all fg) from rfl) ?_
  cases ha:wh.all fg with
  |false=>simp_all
  |true=>
   rw[Bool.not_true,Bool.false_or,Bool.false_or,Bool.not_false,Jh]
   refine aj (show lK ⟨ro.getD []⟩=some ((ro.getD []).all fg) from rfl) ?_
   cases hr:(ro.getD []).all fg with
   |false=>grind
   |true=>
    rw[Bool.not_true,if_neg nF]
    refine an nF (ay (by grind [Ka]) ?_)
    have d0:qX (0,false) 48=(0,false):=by decide
    have hd:jN (aH.mk ((aH.mk [48]).b++(⟨wh⟩:aH).b))=some (m9 wh (0,false)):=by
     show some (m9 (48::wh) (0,false))=_
     rw[m9,if_pos (show fg 48=true from rfl),d0]
    refine aj hd ?_
    have rg:=JN wh 0 false (Int.le_refl _) (by decide) ha
    generalize m9 wh (0,false)=n at rg
    obtain⟨n,e⟩:=n
    obtain⟨n0,n1,n2⟩:=rg
    have n0:0<=n:=n0
    have n1:n<=2147483647:=n1
    have n2:e=0\/e=5:=n2
    rcases n2 with rfl|rfl
    ·refine an nF ?_
     have h0:¬(((n,(0:Int)).2 !=0)=true):=by show¬(((0:Int)!=0)=true);decide
     rw[if_neg h0]
     cases ro with
     |none=>
      refine aN rfl ?_
      show some ((⟨2,aw (sg*n),⟨[]⟩,[]⟩:aa),(0:Int))=some (⟨2,sg*n,⟨[]⟩,[]⟩,0)
      rw[ar (by grind) (by grind)]
     |some r=>
      have hr:r.all fg=true:=hr
      have hrl:r.length<=body.length:=by simp only[Option.getD_some]at hlen;omega
      refine an nF (aj (aaf r (by omega) hr) ?_)
      have pr:=On 6 r hr
      have p6:ED 6 r<1000000:=pr.2
      have wN:aw (sg*(aw ((aw (n*1000000))+ED 6 r)))=sg*(n*1000000+ED 6 r):=by rw[ar (n:=n*1000000) (by omega) (by omega),ar (n:=n*1000000+ED 6 r) (by omega) (by omega),ar (by grind) (by grind)]
      simp only[wN]
      have akn:aw (0 -2147483647000000)=-2147483647000000:=by decide
      by_cases hov:n*1000000+ED 6 r>2147483647000000
      ·rw[if_pos hov]
       refine aj (a:=2) ?_ (aN rfl rfl)
       unfold gL
       refine di (z:=.inl 2147483647000000) (an (by grind) (aN rfl rfl)) (aN ?_ rfl)
       grind
      ·rw[if_neg hov]
       refine aj (a:=0) ?_ (an (by decide) rfl)
       unfold gL
       refine di (z:=.inl 2147483647000000) (an (by grind) (aN rfl rfl)) (an ?_ rfl)
       grind
    grind
def Iq:aa:=⟨0,0,⟨[]⟩,[]⟩
def Sl(f:Nat):aC:=⟨0,f,f,Iq,⟨[]⟩⟩
def tok(f t:Nat)(q:aa×Int):aC×Int:=if q.2 !=0 then(Sl f,q.2)else(⟨1,f,t,q.1,⟨[]⟩⟩,0)
def BI(f:Nat):(List UInt8×Nat)⊕Int->aC×Int
 |.inl r=>(⟨1,f,r.2,⟨4,0,⟨r.1⟩,[]⟩,⟨[]⟩⟩,0)
 |.inr e=>(Sl f,e)
def aau(c:UInt8):Bool:=((((decide ((c.toNat:Int)>=48))&&(decide ((c.toNat:Int)<=57)))||((c.toNat:Int)==43))||((c.toNat:Int)==45))||((c.toNat:Int)==46)
section
variable(b:List UInt8)(last:Bool)
def LB(f:Nat)(c:UInt8):aC×Int:=
 if Wv c then(if(decide ((vg b f:Int)<(b.length:Int)))||last then(if aau c then tok f (vg b f) (Qj (part b (f:Int) (vg b f:Int)))else(⟨6,f,vg b f,Iq,⟨part b (f:Int) (vg b f:Int)⟩⟩,0))else(Sl f,6))
 else if(c.toNat:Int)==91 then(⟨2,f,((f+1:Nat):Int),Iq,⟨[]⟩⟩,0)
 else if(c.toNat:Int)==93 then(⟨3,f,((f+1:Nat):Int),Iq,⟨[]⟩⟩,0)
 else if(c.toNat:Int)==60 then(match b[f+1]? with
  |none=>(Sl f,ym last)
  |some d=>if(d.toNat:Int)==60 then(⟨4,f,((f+2:Nat):Int),Iq,⟨[]⟩⟩,0)else BI f (Ke b last (b.length+1) ([],-1) (f+1)))
 else if(c.toNat:Int)==62 then(match b[f+1]? with
  |none=>(Sl f,if last then 11 else 6)
  |some d=>if(d.toNat:Int)==62 then(⟨5,f,((f+2:Nat):Int),Iq,⟨[]⟩⟩,0)else(Sl f,11))
 else if(c.toNat:Int)==40 then BI f (BJ b last (b.length+1) 1 [] (f+1))
 else if(c.toNat:Int)==47 then(if(decide ((vg b (f+1):Int)<(b.length:Int)))||last then tok f (vg b (f+1)) (T9 (part b ((f+1:Nat):Int) (vg b (f+1):Int)))else(Sl f,6))
 else(Sl f,11)
def iA(k:Nat):aC×Int:=match b[Ee b k]? with
 |none=>(Sl (Ee b k),if last then 0 else 6)
 |some c=>LB b last (Ee b k) c
variable{b last}
theorem M3(k:Nat)(hk:k<=b.length):k<=Ee b k/\Ee b k<=b.length:=M4 _ _ _ hk
theorem IQ(k:Nat)(hk:k<=b.length):k<=vg b k/\vg b k<=b.length:=IT _ _ hk
theorem Tj{k:Nat}{c:UInt8}(hx:b[k]? =some c)(hc:Wv c=true):k<vg b k:=by
 obtain⟨hl,_⟩:=cL hx
 unfold vg
 obtain⟨m,hm⟩:∃m,b.length=m+1:=⟨b.length -1,by omega⟩
 rw[hm,Jn,hx]
 simp only
 rw[if_pos hc]
 grind [IT]
theorem PH{k e:Nat}{c:UInt8}(hx:b[k]? =some c)(h1:k<e)(h2:e<=b.length):part b (k:Int) (e:Int)=c::part b ((k+1:Nat):Int) (e:Int)/\(part b (k:Int) (e:Int)).length=e -k:=by
 obtain⟨hl,hc⟩:=List.getElem?_eq_some_iff.1 hx
 unfold part
 rw[Int.toNat_natCast,Int.toNat_natCast,show((e:Int) -(k:Int)).toNat=(e -(k+1))+1 by omega,show((e:Int) -((k+1:Nat):Int)).toNat=e -(k+1) by omega,List.drop_eq_getElem_cons hl,hc,List.take_succ_cons]
 grind
theorem SB{k e:Nat}(h1:k<=e)(h2:e<=b.length):(part b (k:Int) (e:Int)).length=e -k:=by grind [part,List.length_take,List.length_drop,Int.toNat_natCast]
theorem nq:∀(f:Nat)(d:Int)(o:List UInt8)(j:Nat),j<=b.length->X9 j b.length (BJ b last f d o j)
 |0,d,o,j,_=>yn last
 |f+1,d,o,j,hj=>by
  rw[BJ]
  cases hx:b[j]? with
  |none=>exact yn last
  |some c=>
   have hl:=(cL hx).1
   simp only
   have up:∀{r:(List UInt8×Nat)⊕Int}{j':Nat},j<j'->X9 j' b.length r->X9 j b.length r:=fun{r j'} h hr=>by
    cases r with
    |inl r=>exact⟨Nat.lt_trans h hr.1,hr.2⟩
    |inr e=>exact hr
   split
   ·have hp:=NI (b:=b) (last:=last) (j+1) (by omega)
    cases hes:NH b last (j+1)with
    |inr e=>rw[hes]at hp;have hp:e=ym last:=hp;rw[hp];exact yn last
    |inl r=>rw[hes]at hp;exact up (by have:=hp.1;omega) (nq f d _ r.2 hp.2.1)
   ·split
    ·cases hy:b[j+1]? with
     |none=>
      simp only
      split
      ·exact up (Nat.lt_succ_self j) (nq f d _ (j+1) (by omega))
      ·exact(by decide:(6:Int)≠0)
     |some e=>
      have hl2:=(cL hy).1
      simp only
      split
      ·exact up (by omega) (nq f d _ (j+2) (by omega))
      ·exact up (Nat.lt_succ_self j) (nq f d _ (j+1) (by omega))
    ·split
     ·exact up (Nat.lt_succ_self j) (nq f _ _ (j+1) (by omega))
     ·split
      ·split
       ·exact⟨Nat.lt_succ_self j,by grind⟩
       ·exact up (Nat.lt_succ_self j) (nq f _ _ (j+1) (by omega))
      ·exact up (Nat.lt_succ_self j) (nq f d _ (j+1) (by omega))
def HK(f:Nat)(x:aC×Int×aq):aC×Int:=if x.2.1 !=0 then(Sl f,x.2.1)else(⟨x.1.Kind,f,x.2.2.at_,x.1.V,x.1.S⟩,0)
theorem ZT(hb:b.length<1048576)(f:Nat)(c:UInt8)(hx:b[f]? =some c):∃x,gJ ⟨wg.zero,b,(f:Int),last⟩ c=some x/\HK f x=LB b last f c:=by
 obtain⟨hl,hi⟩:=cL hx
 have hw:=zB (n:=f) (by omega)
 unfold gJ LB
 refine L8 (fun z=>z=Wv c) ⟨_,KA c,rfl⟩ ?_
 rintro _ rfl
 have hru:=IQ (b:=b) f (by omega)
 cases hr:Wv c with
 |true=>
  have hlt:=Tj hx hr
  obtain⟨p1,p2⟩:=PH hx hlt hru.2
  simp only[if_true]
  show∃x,(aP (eU ⟨wg.zero,b,(f:Int),last⟩) fun r2=>some (r2.1,r2.2.1,r2.2.2))=some x/\_
  unfold eU
  rw[XX (by omega) wg.zero f last (by omega),aJ]
  show∃x,(aP (if(!((decide ((vg b f:Int)<(b.length:Int)))||last))=true then _ else aL (0<=(0:Int)/\(0:Int)<((part b (f:Int) (vg b f:Int)).length:Int)) (if aau (ix (part b (f:Int) (vg b f:Int)) 0)=true then _ else _)) _)=some x/\_
  have hix:ix (part b (f:Int) (vg b f:Int)) 0=c:=by rw[p1];rfl
  rw[hix]
  cases hd:(decide ((vg b f:Int)<(b.length:Int)))||last with
  |false=>exact⟨_,aj (aN rfl rfl) rfl,by rw[if_neg nF];rfl⟩
  |true=>
   rw[if_pos rfl]
   have nd:0<=(0:Int)/\(0:Int)<((part b (f:Int) (vg b f:Int)).length:Int):=by rw[p2];omega
   by_cases hn:aau c=true
   ·rw[if_pos hn,if_pos hn]
    refine⟨_,aj (an nT (ay nd (aj (air _ (by grind)) rfl))) rfl,?_⟩
    grind [HK,tok]
   ·rw[if_neg hn,if_neg hn]
    exact⟨_,aj (an nT (ay nd rfl)) rfl,rfl⟩
 |false=>
  rw[if_neg nF]
  simp only[hw]
  rw[if_neg nF]
  by_cases h91:((c.toNat:Int)==91)=true
  ·rw[if_pos h91,if_pos h91];exact⟨_,rfl,rfl⟩
  rw[if_neg h91,if_neg h91]
  by_cases h93:((c.toNat:Int)==93)=true
  ·rw[if_pos h93,if_pos h93];exact⟨_,rfl,rfl⟩
  rw[if_neg h93,if_neg h93]
  by_cases h60:((c.toNat:Int)==60)=true
  ·rw[if_pos h60,if_pos h60]
   unfold gI
   cases hy:b[f+1]? with
   |none=>exact⟨_,aj (aj (rn hy) (aN rfl (aj (Oc ..) rfl))) rfl,by unfold HK;exact if_pos (by grind [ym])⟩
   |some d=>
    have hl2:=(cL hy).1
    have hw2:=zB (n:=f+1) (by omega)
    simp only
    by_cases hd:((d.toNat:Int)==60)=true
    ·rw[if_pos hd]
     refine⟨_,aj (aj (eP hy) (an nT (aN hd rfl))) rfl,?_⟩
     show((⟨4,f,aw (((f+1:Nat):Int)+1),Iq,⟨[]⟩⟩:aC),(0:Int))=_
     rw[hw2]
    ·rw[if_neg hd]
     obtain⟨x,x1,x2⟩:=ZQ (last:=last) hb false (f+1) (by omega)
     refine⟨_,aj (aj (eP hy) (an nT (an hd (aj (show fC ⟨wg.zero,b,_,last⟩=_ from x1) rfl)))) rfl,?_⟩
     have hp:=BS (b:=b) (last:=last) (b.length+1) ([],-1) (f+1) (by omega)
     cases hq:Ke b last (b.length+1) ([],-1) (f+1)with
     |inl r=>
      rw[hq]at x2
      obtain⟨y1,y2,y3⟩:=x2
      unfold HK BI
      grind
     |inr e=>
      rw[hq]at x2 hp
      have x2:x.2.1=e:=x2
      have hp:e≠0:=hp
      unfold HK BI
      grind
  rw[if_neg h60,if_neg h60]
  by_cases h62:((c.toNat:Int)==62)=true
  ·rw[if_pos h62,if_pos h62]
   unfold gG
   cases hy:b[f+1]? with
   |none=>
    cases last with
    |true=>exact⟨_,aj (aj (rn hy) (an nF (aN rfl rfl))) rfl,rfl⟩
    |false=>exact⟨_,aj (aj (rn hy) (aN rfl rfl)) rfl,rfl⟩
   |some d=>
    have hl2:=(cL hy).1
    have hw2:=zB (n:=f+1) (by omega)
    simp only
    by_cases hd:((d.toNat:Int)==62)=true
    ·rw[if_pos hd]
     refine⟨_,aj (aj (eP hy) (an nF (an (by grind) rfl))) rfl,?_⟩
     show((⟨5,f,aw (((f+1:Nat):Int)+1),Iq,⟨[]⟩⟩:aC),(0:Int))=_
     rw[hw2]
    ·rw[if_neg hd]
     exact⟨_,aj (aj (eP hy) (an nF (aN (by grind) rfl))) rfl,rfl⟩
  rw[if_neg h62,if_neg h62]
  by_cases h40:((c.toNat:Int)==40)=true
  ·rw[if_pos h40,if_pos h40]
   obtain⟨x,x1,x2⟩:=aew (last:=last) hb false (f+1) (by omega)
   refine⟨_,aj (show gn ⟨wg.zero,b,_,last⟩=_ from x1) rfl,?_⟩
   have hp:=nq (b:=b) (last:=last) (b.length+1) 1 [] (f+1) (by omega)
   cases hq:BJ b last (b.length+1) 1 [] (f+1)with
   |inl r=>
    rw[hq]at x2
    obtain⟨y1,y2,y3⟩:=x2
    unfold HK BI
    grind
   |inr e=>
    rw[hq]at x2 hp
    have x2:x.2.1=e:=x2
    have hp:e≠0:=hp
    unfold HK BI
    grind
  rw[if_neg h40,if_neg h40]
  by_cases h47:((c.toNat:Int)==47)=true
  ·rw[if_pos h47,if_pos h47]
   have hr2:=IQ (b:=b) (f+1) (by omega)
   have pl:=SB (b:=b) hr2.1 hr2.2
   refine L8 (fun z=>z=_) ⟨_,XX (by omega) wg.zero (f+1) last (by omega),rfl⟩ ?_
   rintro _ rfl
   cases hd:(decide ((vg b (f+1):Int)<(b.length:Int)))||last with
   |false=>exact⟨_,aN rfl rfl,by rw[if_neg nF];rfl⟩
   |true=>
    rw[if_pos rfl]
    refine⟨_,an nT (aj (aeu (by grind)) rfl),?_⟩
    grind [HK,tok]
  rw[if_neg h47,if_neg h47]
  exact⟨_,rfl,rfl⟩
theorem Dv(hb:b.length<1048576)(k:Nat)(hk:k<=b.length):du b (k:Int) last=some (iA b last k):=by
 unfold du iA
 have hs:=M3 (b:=b) k hk
 refine an (by simp;omega) (aj (aev (by omega) k hk) ?_)
 cases hx:b[Ee b k]? with
 |none=>
  have:=oA hx
  refine aN (by simp;omega) ?_
  cases last<;>rfl
 |some c=>
  obtain⟨hl,hi⟩:=cL hx
  obtain⟨x,x1,x2⟩:=ZT (last:=last) hb (Ee b k) c hx
  refine an (by simp;omega) (ay (by omega) ?_)
  rw[hi]
  refine aj x1 ?_
  show _=some (LB b last (Ee b k) c)
  rw[<-x2]
  unfold HK
  by_cases he:(x.2.1 !=0)=true
  ·rw[if_pos he,if_pos he];rfl
  grind
def tR(t:aC):bz:=⟨t.Kind,t.mY,t.To,t.V,t.S⟩
end
end Go.AB
end
