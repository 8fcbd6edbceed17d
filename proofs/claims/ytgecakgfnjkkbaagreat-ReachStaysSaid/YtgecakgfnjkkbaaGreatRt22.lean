/- A part. -/
import Derived.Test.YtgecakgfnjkkbaaGreatRt21
set_option linter.defProp false
set_option linter.unusedSimpArgs false
set_option linter.unusedVariables false
section
namespace Go.AB
open Go
section
variable(b:List UInt8)(last:Bool)
def yO:Nat->Int->Nat->Int×Nat×Bool
 |0,n,j=>(n,j,false)
 |k+1,n,j=>match b[j]? with
  |none=>(n,j,true)
  |some d=>if(decide ((d.toNat:Int)<48))||(decide ((d.toNat:Int)>55))then(n,j,false)else yO k (8*n+((d.toNat:Int) -48)) (j+1)
def Nq(j:Nat):(List UInt8×Nat)⊕Int:=match b[j]? with
 |none=>.inr (zB last)
 |some c=>
  if(c.toNat:Int)==110 then .inl ([10],j+1)else if(c.toNat:Int)==114 then .inl ([13],j+1)else if(c.toNat:Int)==116 then .inl ([9],j+1)
  else if(c.toNat:Int)==98 then .inl ([8],j+1)else if(c.toNat:Int)==102 then .inl ([12],j+1)else if(c.toNat:Int)==10 then .inl ([],j+1)
  else if(c.toNat:Int)==13 then(match b[j+1]? with
   |none=>if last then .inl ([],j+1)else .inr 6
   |some d=>if(d.toNat:Int)==10 then .inl ([],j+2)else .inl ([],j+1))
  else if(decide ((c.toNat:Int)<48))||(decide ((c.toNat:Int)>55))then .inl ([c],j+1)
  else if(yO b 2 ((c.toNat:Int) -48) (j+1)).2.2&&!last then .inr 6 else .inl ([jt (yO b 2 ((c.toNat:Int) -48) (j+1)).1],(yO b 2 ((c.toNat:Int) -48) (j+1)).2.1)
def zl:Nat->Int->List UInt8->Nat->(List UInt8×Nat)⊕Int
 |0,_,_,_=>.inr (zB last)
 |f+1,deep,out,j=>match b[j]? with
  |none=>.inr (zB last)
  |some c=>
   if(c.toNat:Int)==92 then(match Nq b last (j+1)with
    |.inr e=>.inr e
    |.inl (x,j')=>zl f deep (out++x) j')
   else if(c.toNat:Int)==13 then(match b[j+1]? with
    |none=>if last then zl f deep (out++[10]) (j+1)else .inr 6
    |some d=>if(d.toNat:Int)==10 then zl f deep (out++[10]) (j+2)else zl f deep (out++[10]) (j+1))
   else if(c.toNat:Int)==40 then zl f (deep+1) (out++[c]) (j+1)
   else if(c.toNat:Int)==41 then(if deep -1==0 then .inl (out,j+1)else zl f (deep -1) (out++[c]) (j+1))
   else zl f deep (out++[c]) (j+1)
variable{b last}
def U6:∀(k:Nat)(n:Int)(j:Nat),j<=b.length->j<=(yO b k n j).2.1/\(yO b k n j).2.1<=b.length/\(yO b k n j).2.1<=j+k/\((yO b k n j).2.2=true->(yO b k n j).2.1=b.length/\(yO b k n j).2.1<j+k)
 |0,n,j,h=>⟨Nat.le_refl _,h,Nat.le_refl _,fun e=>f_⟩
 |k+1,n,j,h=>by
  rw[yO]
  cases hx:b[j]? with
  |none=>grind
  |some d=>
   have hl:=(dy hx).1
   simp
   split
   ·grind
   ·have:=U6 k (8*n+(d.toNat -48)) (j+1) AT
    refine⟨AT,AT,AT,fun e=>?_⟩
    have:=this.2.2.2 e
    omega
def okE(j n:Nat)(last:Bool):(List UInt8×Nat)⊕Int->Prop
 |.inl r=>j<r.2/\r.2<=n/\r.1.length<=1
 |.inr e=>e=zB last
def oj{j n:Nat}{last:Bool}{c:Prop}[Decidable c]{x y:(List UInt8×Nat)⊕Int}(h1:okE j n last x)(h2:¬c->okE j n last y):okE j n last (if c then x else y):=A_
def Ph(j:Nat)(h:j<=b.length):okE j b.length last (Nq b last j):=by
 unfold Nq
 cases hx:b[j]? with
 |none=>exact rfl
 |some c=>
  have hl:=(dy hx).1
  have k1:∀x,x.length<=1->okE j b.length last (.inl (x,j+1)):=fun x hx=>⟨BY,A_,hx⟩
  refine oj (k1 _ BY) fun _=>oj (k1 _ BY) fun _=>oj (k1 _ BY) fun _=>oj (k1 _ BY) fun _=>oj (k1 _ BY) fun _=>oj (k1 _ BY) fun _=>oj ?_ fun _=>oj (k1 _ BY) fun _=>?_
  ·cases hy:b[j+1]? with
   |none=>
    cases last with
    |true=>grind
    |false=>exact rfl
   |some d=>exact oj ⟨BY,A_,Nat.zero_le _⟩ fun _=>k1 _ BY
  ·have:=U6 (b:=b) 2 (c.toNat -48) (j+1) AT
   by_cases h1:((yO b 2 (c.toNat -48) (j+1)).2.2&&!last)=true
   ·rw[if_pos h1]
    have:last=false:=A_
    rw[this];exact rfl
   ·rw[if_neg h1]
    exact⟨A_,this.2.1,BY⟩
def XO(c:UInt8):(decide (Lib.indexByte [110,114,116,98,102] c>=0))=(((c.toNat:Int)==110)||(((c.toNat:Int)==114)||(((c.toNat:Int)==116)||(((c.toNat:Int)==98)||((c.toNat:Int)==102))))):=of_decide_eq_true (nE (fun c=>decide ((decide (Lib.indexByte [110,114,116,98,102] c>=0))=(((c.toNat:Int)==110)||(((c.toNat:Int)==114)||(((c.toNat:Int)==116)||(((c.toNat:Int)==98)||((c.toNat:Int)==102))))))) By c)
def acx(hb:b.length<1048576){u:Bool}{o:List UInt8}(ho:o.length<1048576)(c:UInt8)(hc:48<=(c.toNat:Int)/\(c.toNat:Int)<=55)(j:Nat)(hj:j<=b.length):
 ∃x,gk ⟨⟨u,true,⟨o⟩⟩,b,(j:Int),last⟩ c=some x/\(if(yO b 2 ((c.toNat:Int) -48) j).2.2&&!last then x.1=false/\x.2.aR=last else x=(true,⟨⟨true,true,⟨o++[jt (yO b 2 ((c.toNat:Int) -48) j).1]⟩⟩,b,((yO b 2 ((c.toNat:Int) -48) j).2.1:Int),last⟩)):=by
 have cg:room=140737488355328:=rfl
 have e0:aC (((jt ((c.toNat:Int) -48)).toNat:Int))=(c.toNat:Int) -48:=by
  have:=of_decide_eq_true (nE (fun c=>decide (48<=(c.toNat:Int)->aC (((jt ((c.toNat:Int) -48)).toNat:Int))=(c.toNat:Int) -48)) By c)
  exact this hc.1
 have dig:∀d:UInt8,¬(((decide ((d.toNat:Int)<48))||(decide ((d.toNat:Int)>55)))=true)->48<=(d.toNat:Int)/\(d.toNat:Int)<=55/\aC (((jt ((d.toNat:Int) -48)).toNat:Int))=(d.toNat:Int) -48:=fun d h=>by
  have h1:48<=(d.toNat:Int)/\(d.toNat:Int)<=55:=Xb2
  exact⟨h1.1,h1.2,of_decide_eq_true (nE (fun c=>decide (48<=(c.toNat:Int)->aC (((jt ((c.toNat:Int) -48)).toNat:Int))=(c.toNat:Int) -48)) By d) h1.1⟩
 generalize hT:yO b 2 ((c.toNat:Int) -48) j=T
 unfold gk
 rw[e0]
 refine rT (fun(r:(Int×aq)⊕(Bool×aq))=>(r=.inl (T.1,⟨⟨u,true,⟨o⟩⟩,b,(T.2.1:Int),last⟩)/\T.2.2=false)\/(T.2.2=true/\(if last then r=.inr (true,⟨⟨true,true,⟨o++[jt T.1]⟩⟩,b,(T.2.1:Int),last⟩)else∃x,r=.inr (false,x)/\x.aR=last))) (Cf (fun(r:(Int×aq)⊕(Bool×aq))=>(r=.inl (T.1,⟨⟨u,true,⟨o⟩⟩,b,(T.2.1:Int),last⟩)/\T.2.2=false)\/(T.2.2=true/\(if last then r=.inr (true,⟨⟨true,true,⟨o++[jt T.1]⟩⟩,b,(T.2.1:Int),last⟩)else∃x,r=.inr (false,x)/\x.aR=last))) (eh (fun(s:Int×Int×aq)=>∃(i k:Nat),s.2.2=⟨⟨u,true,⟨o⟩⟩,b,(i:Int),last⟩/\i<=b.length/\k<=2/\s.2.1=2 -(k:Int)/\0<=s.1/\s.1<=511/\s.1<8^(3 -k)/\yO b k s.1 i=T) (fun s=>(2 -s.2.1).toNat)
  (fun(r:(Int×aq)⊕(Bool×aq))=>(r=.inl (T.1,⟨⟨u,true,⟨o⟩⟩,b,(T.2.1:Int),last⟩)/\T.2.2=false)\/(T.2.2=true/\(if last then r=.inr (true,⟨⟨true,true,⟨o++[jt T.1]⟩⟩,b,(T.2.1:Int),last⟩)else∃x,r=.inr (false,x)/\x.aR=last)))
  ⟨j,2,rfl,hj,Nat.le_refl _,rfl,A_,A_,A_,hT⟩ A_ (by
    rintro⟨n,q,o7⟩ ⟨i,k,e,hi,hk,eq,n0,n1,n2,hs⟩
    have e:o7=⟨⟨u,true,⟨o⟩⟩,b,(i:Int),last⟩:=e
    have eq:q=2 -(k:Int):=eq
    subst e;subst eq
    have n0:0<=n:=n0
    have n1:n<=511:=n1
    have hs:yO b k n i=T:=hs
    cases k with
    |zero=>
     rw[yO]at hs
     grind
    |succ k=>
     rw[yO]at hs
     have hlt:(decide (2 -((k+1:Nat):Int)<2))=true:=C_
     cases hx:b[i]? with
     |none=>
      rw[hx]at hs
      subst hs
      cases last with
      |true=>exact⟨_,aM hlt (ah (sd hx) (aM rfl (aM rfl (ah (EL _ AT) rfl)))),.inr ⟨rfl,A_⟩⟩
      |false=>exact⟨_,aM hlt (ah (sd hx) (aM rfl (an nF rfl))),.inr ⟨rfl,A_⟩⟩
     |some d=>
      obtain⟨hl,_⟩:=dy hx
      rw[hx]at hs
      simp only at hs
      by_cases hd:((decide ((d.toNat:Int)<48))||(decide ((d.toNat:Int)>55)))=true
      ·rw[if_pos hd]at hs
       subst hs
       exact⟨_,aM hlt (ah (fm hx) (an nT (aM hd rfl))),.inl ⟨rfl,rfl⟩⟩
      ·rw[if_neg hd]at hs
       obtain⟨d1,d2,d3⟩:=dig d hd
       have hw:=zf (n:=i) AT
       have n2:n<8^(3 -(k+1)):=n2
       have hp:n<64/\8*n+((d.toNat:Int) -48)<8^(3 -k):=by
        rcases(show k=0\/k=1 by omega)with rfl|rfl
        ·grind
        ·grind
       have w8:aC ((aC (8*n))+(aC (((jt ((d.toNat:Int) -48)).toNat:Int))))=8*n+((d.toNat:Int) -48):=by rw[d3,ao (n:=8*n) AT AT,ao AT AT]
       have wk:aC (2 -((k+1:Nat):Int)+1)=2 -(k:Int):=E_
       refine⟨_,aM hlt (ah (fm hx) (an nT (an hd rfl))),⟨i+1,k,?_,AT,AT,wk,A_,A_,A_,A_⟩,?_⟩
       ·grind
       grind)) ?_) ?_
 ·rintro z (⟨rfl,h2⟩|⟨h2,h3⟩)
  ·simp_all
  ·cases last with
   |true=>simp_all
   |false=>
    rw[if_neg nF]at h3
    obtain⟨x,rfl,hx⟩:=h3
    simp_all
 ·rintro z (⟨rfl,h2⟩|⟨h2,h3⟩)
  ·refine⟨_,ah (EL _ AT) rfl,?_⟩
   grind
  ·cases last with
   |true=>simp_all
   |false=>
    rw[if_neg nF]at h3
    obtain⟨x,rfl,hx⟩:=h3
    simp_all
end
section
variable{b:List UInt8}{last:Bool}
def aaD(u:Bool)(o:List UInt8)(hb:b.length<1048576)(c:UInt8)(hc:((c.toNat:Int)==13)=true)(j:Nat)(hj:j<=b.length):
 du ⟨⟨u,true,⟨o⟩⟩,b,(j:Int),last⟩ c=some (match b[j]? with
  |none=>(last,⟨⟨u,true,⟨o⟩⟩,b,(j:Int),last⟩)
  |some d=>(true,⟨⟨u,true,⟨o⟩⟩,b,if(d.toNat:Int)==10 then((j+1:Nat):Int)else(j:Int),last⟩)):=by
 refine an A_ ?_
 cases hx:b[j]? with
 |none=>exact ah (sd hx) (eJ (an BY rfl) rfl)
 |some d=>
  by_cases hd:((d.toNat:Int)==10)=true
  ·refine ah (fm hx) (eJ (aM A_ rfl) ?_)
   grind [aC,zf]
  ·simp[hd]
   exact ah (fm hx) (eJ (an A_ rfl) rfl)
def Lu(hb:b.length<1048576){u:Bool}{o:List UInt8}(ho:o.length<1048576)(j:Nat){c y:UInt8}{i:Int}(hx:b[j]? =some c)(e:Lib.indexByte [110,114,116,98,102] c=i)(h0:0<=i/\i<5)(hy:ix ([10,13,9,8,12]:List UInt8) i=y):
 dt ⟨⟨u,true,⟨o⟩⟩,b,(j:Int),last⟩=some (true,⟨⟨true,true,⟨o++[y]⟩⟩,b,((j+1:Nat):Int),last⟩):=by
 have cg:room=140737488355328:=rfl
 refine ah (fm hx) (an nT (ah (show dU _ c=some i by rw[<-e];rfl) (aM A_ (ay h0 (ah (EL _ AT) ?_)))))
 grind [ix,aC,zf]
def Mx{c:UInt8}{n:Nat}(hn:n<256)(h:((c.toNat:Int)==(n:Int))=true):c=UInt8.ofNat n:=by
 have h:=J_
 have h:c.toNat=n:=AT
 rw[<-h];simp
def leR(b:List UInt8)(last:Bool)(o:List UInt8)(r:(List UInt8×Nat)⊕Int)(x:Bool×aq):Prop:=match r with
 |.inr _=>x.1=false/\x.2.aR=last
 |.inl r=>∃u',x=(true,⟨⟨u',true,⟨o++r.1⟩⟩,b,(r.2:Int),last⟩)
def X7(hb:b.length<1048576){u:Bool}{o:List UInt8}(ho:o.length<1048576)(j:Nat)(hj:j<=b.length):
 ∃x,dt ⟨⟨u,true,⟨o⟩⟩,b,(j:Int),last⟩=some x/\leR b last o (Nq b last j) x:=by
 have cg:room=140737488355328:=rfl
 unfold Nq
 cases hx:b[j]? with
 |none=>
  unfold dt
  exact⟨_,ah (sd hx) (aM rfl rfl),rfl,rfl⟩
 |some c=>
  obtain⟨hl,_⟩:=dy hx
  have hw:=zf (n:=j) AT
  have tI:=XO c
  simp only
  by_cases n1:((c.toNat:Int)==110)=true
  ·rw[if_pos n1]
   obtain rfl:c=110:=Mx (n:=110) B_ n1
   exact⟨_,Lu hb ho j hx (i:=0) rfl B_ rfl,true,rfl⟩
  rw[if_neg n1]
  by_cases n2:((c.toNat:Int)==114)=true
  ·rw[if_pos n2]
   obtain rfl:c=114:=Mx (n:=114) B_ n2
   exact⟨_,Lu hb ho j hx (i:=1) rfl B_ rfl,true,rfl⟩
  rw[if_neg n2]
  by_cases n3:((c.toNat:Int)==116)=true
  ·rw[if_pos n3]
   obtain rfl:c=116:=Mx (n:=116) B_ n3
   exact⟨_,Lu hb ho j hx (i:=2) rfl B_ rfl,true,rfl⟩
  rw[if_neg n3]
  by_cases n4:((c.toNat:Int)==98)=true
  ·rw[if_pos n4]
   obtain rfl:c=98:=Mx (n:=98) B_ n4
   exact⟨_,Lu hb ho j hx (i:=3) rfl B_ rfl,true,rfl⟩
  rw[if_neg n4]
  by_cases n5:((c.toNat:Int)==102)=true
  ·rw[if_pos n5]
   obtain rfl:c=102:=Mx (n:=102) B_ n5
   exact⟨_,Lu hb ho j hx (i:=4) rfl B_ rfl,true,rfl⟩
  rw[if_neg n5]
  have hi:¬(decide (Lib.indexByte [110,114,116,98,102] c>=0))=true:=by
   rw[tI]
   simp only[Bool.or_eq_true,not_or]
   exact⟨n1,n2,n3,n4,n5⟩
  have start:∀{r:Option (Bool×aq)},(if((decide ((c.toNat:Int)>=48))&&(decide ((c.toNat:Int)<=55)))=true then aZ (gk ⟨⟨u,true,⟨o⟩⟩,b,((j+1:Nat):Int),last⟩ c) fun r4=>some (r4.1,r4.2)
   else if(((c.toNat:Int)==10)||((c.toNat:Int)==13))=true then aZ (du ⟨⟨u,true,⟨o⟩⟩,b,((j+1:Nat):Int),last⟩ c) fun r5=>some (r5.1,r5.2)
   else aZ (aG ⟨u,true,⟨o⟩⟩ c) fun r6=>some (true,(⟨r6.2,b,((j+1:Nat):Int),last⟩:aq)))=r->dt ⟨⟨u,true,⟨o⟩⟩,b,(j:Int),last⟩=r:=fun h=>by
   unfold dt
   refine ah (fm hx) (an nT (ah (show dU _ c=some _ from rfl) (an hi ?_)))
   grind
  by_cases n10:((c.toNat:Int)==10)=true
  ·rw[if_pos n10]
   have hc:(c.toNat:Int)=10:=by simpa using n10
   refine⟨_,start (an A_ (aM (by rw[n10];rfl) (ah (aM A_ rfl) rfl))),u,?_⟩
   grind
  rw[if_neg n10]
  by_cases n13:((c.toNat:Int)==13)=true
  ·rw[if_pos n13]
   have hc:(c.toNat:Int)=13:=by simpa using n13
   refine⟨_,start (an A_ (aM A_ (ah (aaD u o hb c n13 (j+1) AT) rfl))),?_⟩
   cases hy:b[j+1]? with
   |none=>
    cases last with
    |true=>exact⟨u,A_⟩
    |false=>exact⟨rfl,rfl⟩
   |some d=>
    simp only
    by_cases hd:((d.toNat:Int)==10)=true
    ·rw[if_pos hd,if_pos hd]
     exact⟨u,A_⟩
    ·rw[if_neg hd,if_neg hd]
     exact⟨u,A_⟩
  rw[if_neg n13]
  by_cases no:((decide ((c.toNat:Int)<48))||(decide ((c.toNat:Int)>55)))=true
  ·rw[if_pos no]
   exact⟨_,start (an A_ (an A_ (ah (EL _ AT) rfl))),true,rfl⟩
  ·rw[if_neg no]
   have hc:48<=(c.toNat:Int)/\(c.toNat:Int)<=55:=by simp at no;omega
   obtain⟨x,h1,h2⟩:=acx (last:=last) hb (u:=u) ho c hc (j+1) AT
   refine⟨x,start (aM C_ (ah h1 rfl)),?_⟩
   by_cases h:((yO b 2 ((c.toNat:Int) -48) (j+1)).2.2&&!last)=true
   ·rw[if_pos h]at h2⊢
    exact h2
   ·rw[if_neg h]at h2⊢
    exact⟨true,h2⟩
def agZ(hb:b.length<1048576)(u:Bool)(k:Nat)(hk:k<=b.length):∃x,gU ⟨⟨u,true,⟨[]⟩⟩,b,(k:Int),last⟩=some x/\Se (zl b last (b.length+1) 1 [] k) x:=by
 have cg:room=140737488355328:=rfl
 generalize hT:zl b last (b.length+1) 1 [] k=T
 unfold gU
 refine eh (fun(s:Int×aq)=>∃(j f:Nat)(u:Bool)(o:List UInt8),s.2=⟨⟨u,true,⟨o⟩⟩,b,(j:Int),last⟩/\j<=b.length/\b.length -j+1<=f/\o.length<=j/\1<=s.1/\s.1<=(j:Int)+1/\zl b last f s.1 o j=T) (fun s=>b.length -s.2.at_.toNat) (Se T) ⟨k,b.length+1,u,[],rfl,hk,AT,Nat.zero_le _,A_,A_,hT⟩ A_ ?_
 rintro⟨deep,o2⟩ ⟨j,f,u,o,e,hj,hf,ho,d1,d2,hs⟩
 have e:o2=⟨⟨u,true,⟨o⟩⟩,b,(j:Int),last⟩:=e
 subst e
 have d1:1<=deep:=d1
 have d2:deep<=(j:Int)+1:=d2
 have hs:zl b last f deep o j=T:=hs
 obtain⟨f,rfl⟩:∃g,f=g+1:=⟨f -1,AT⟩
 rw[zl]at hs
 cases hx:b[j]? with
 |none=>
  rw[hx]at hs
  refine⟨_,ah (sd hx) (aM rfl (ah (PJ ..) rfl)),?_⟩
  show Se T _
  rw[<-hs]
  exact rfl
 |some c=>
  obtain⟨hl,hi⟩:=dy hx
  rw[hx]at hs
  simp only at hs
  have hw:=zf (n:=j) AT
  have aha:∀j':Nat,j<j'->b.length -((j':Nat):Int).toNat<b.length -(j:Int).toNat:=fun j' h=>AT
  have put:∀(d:Int)(c:UInt8)(j':Nat),1<=d->d<=(j':Int)+1->j<j'->j'<=b.length->zl b last f d (o++[c]) j'=T->
   ∃t,(if(d==0)=true then aZ (bT ⟨u,true,⟨o⟩⟩) fun r22=>some (Sum.inr ((⟨4,0,r22.1,[]⟩:aa),(0:Int),(⟨r22.2,b,((j':Nat):Int),last⟩:aq)))else aZ (aG ⟨u,true,⟨o⟩⟩ c) fun r23=>some (Sum.inl (d,(⟨r23.2,b,((j':Nat):Int),last⟩:aq))))=some (Sum.inl t)/\
    (∃(j f:Nat)(u:Bool)(o:List UInt8),t.2=⟨⟨u,true,⟨o⟩⟩,b,(j:Int),last⟩/\j<=b.length/\b.length -j+1<=f/\o.length<=j/\1<=t.1/\t.1<=(j:Int)+1/\zl b last f t.1 o j=T)/\b.length -t.2.at_.toNat<b.length -(j:Int).toNat:=fun d c j' h1 h2 h3 h4 h5=>by
   have hd:¬(d==0)=true:=C_
   refine⟨_,an hd (ah (EL _ AT) rfl),⟨j',f,true,o++[c],rfl,h4,AT,C_,h1,h2,h5⟩,aha j' h3⟩
  by_cases n92:((c.toNat:Int)==92)=true
  ·rw[if_pos n92]at hs
   obtain⟨x,x1,x2⟩:=X7 (last:=last) hb (u:=u) (o:=o) AT (j+1) AT
   have hp:=Ph (b:=b) (last:=last) (j+1) AT
   cases hes:Nq b last (j+1)with
   |inr e=>
    rw[hes]at hs x2 hp
    simp only at hs
    obtain⟨y1,y2⟩:=x2
    have hp:e=zB last:=hp
    have ho2:cM x.2=some (zB last):=by rw[<-y2];obtain⟨_,⟨_,_,_,l⟩⟩:=x;cases l<;>rfl
    refine⟨_,ah (fm hx) (an nT (dm (aM n92 (ah A_ (aM (by rw[y1];rfl) (ah ho2 rfl)))) rfl)),?_⟩
    show Se T _
    rw[<-hs,hp]
    exact rfl
   |inl r=>
    rw[hes]at hs x2 hp
    simp only at hs
    obtain⟨u',rfl⟩:=x2
    obtain⟨p1,p2,p3⟩:=hp
    refine⟨_,ah (fm hx) (an nT (dm (aM n92 (ah (by show dt ⟨_,b,aC ((j:Int)+1),last⟩=_;rw[hw];exact x1) (an nT rfl))) rfl)),⟨r.2,f,u',o++r.1,rfl,p2,AT,C_,d1,AT,hs⟩,aha r.2 AT⟩
  ·rw[if_neg n92]at hs
   by_cases n13:((c.toNat:Int)==13)=true
   ·rw[if_pos n13]at hs
    have ym:=aaD (last:=last) u o hb c n13 (j+1) AT
    cases hy:b[j+1]? with
    |none=>
     rw[hy]at hs ym
     cases last with
     |false=>
      refine⟨_,ah (fm hx) (an nT (dm (an n92 (aM n13 (ah Xb3 (aM rfl (ah (PJ ..) rfl))))) rfl)),?_⟩
      show Se T _
      rw[<-hs]
      exact rfl
     |true=>
      obtain⟨t,q1,q2,q3⟩:=put deep 10 (j+1) d1 AT AT AT hs
      exact⟨.inl t,ah (fm hx) (an nT (dm (an n92 (aM n13 (ah Xb3 (an nT rfl)))) q1)),q2,q3⟩
    |some d=>
     rw[hy]at hs ym
     simp only at hs ym
     have hl2:=(dy hy).1
     by_cases hd:((d.toNat:Int)==10)=true
     ·rw[if_pos hd]at hs ym
      obtain⟨t,q1,q2,q3⟩:=put deep 10 (j+2) d1 AT AT AT hs
      exact⟨.inl t,ah (fm hx) (an nT (dm (an n92 (aM n13 (ah Xb3 (an nT rfl)))) q1)),q2,q3⟩
     ·rw[if_neg hd]at hs ym
      obtain⟨t,q1,q2,q3⟩:=put deep 10 (j+1) d1 AT AT AT hs
      exact⟨.inl t,ah (fm hx) (an nT (dm (an n92 (aM n13 (ah Xb3 (an nT rfl)))) q1)),q2,q3⟩
   ·rw[if_neg n13]at hs
    by_cases n40:((c.toNat:Int)==40)=true
    ·rw[if_pos n40]at hs
     have wd:aC (deep+1)=deep+1:=ao AT AT
     obtain⟨t,q1,q2,q3⟩:=put (deep+1) c (j+1) AT AT AT AT hs
     rw[<-hw,<-wd]at q1
     exact⟨.inl t,ah (fm hx) (an nT (dm (an n92 (an n13 (aM n40 rfl))) q1)),q2,q3⟩
    ·rw[if_neg n40]at hs
     by_cases n41:((c.toNat:Int)==41)=true
     ·rw[if_pos n41]at hs
      have wd:aC (deep -1)=deep -1:=ao AT AT
      by_cases h0:(deep -1==0)=true
      ·rw[if_pos h0]at hs
       refine⟨_,ah (fm hx) (an nT (dm (an n92 (an n13 (an n40 (aM n41 rfl)))) (aM A_ (ah (abA AT) rfl)))),?_⟩
       show Se T _
       rw[<-hs]
       exact⟨rfl,rfl,hw⟩
      ·rw[if_neg h0]at hs
       obtain⟨t,q1,q2,q3⟩:=put (deep -1) c (j+1) A_ AT AT AT hs
       rw[<-hw,<-wd]at q1
       exact⟨.inl t,ah (fm hx) (an nT (dm (an n92 (an n13 (an n40 (aM n41 rfl)))) q1)),q2,q3⟩
     ·rw[if_neg n41]at hs
      obtain⟨t,q1,q2,q3⟩:=put deep c (j+1) d1 AT AT AT hs
      rw[<-hw]at q1
      exact⟨.inl t,ah (fm hx) (an nT (dm (an n92 (an n13 (an n40 (an n41 rfl)))) q1)),q2,q3⟩
end
section
variable{b:List UInt8}{last:Bool}
end
section
variable(w:List UInt8)
def Sg:Nat->List UInt8->Nat->List UInt8⊕Int
 |0,out,_=>.inl out
 |f+1,out,i=>match w[i]? with
  |none=>.inl out
  |some c=>if(c.toNat:Int)==35 then(match w[i+2]? with
    |none=>.inr 17
    |some y=>match w[i+1]? with
     |none=>.inr 17
     |some x=>if decide (IM x<0)||decide (IM y<0)then .inr 17 else Sg f (out++[jt (aC (aC (16*IM x)+IM y))]) (i+3))
   else Sg f (out++[c]) (i+1)
def naF(o:List UInt8):aa×Int:=if decide ((o.length:Int)>127)||decide (Lib.indexByte o 0>=0)then(⟨0,0,⟨[]⟩,[]⟩,17)else(⟨5,0,⟨o⟩,[]⟩,0)
def Sf:aa×Int:=match Sg w (w.length+1) [] 0 with
 |.inr e=>(⟨0,0,⟨[]⟩,[]⟩,e)
 |.inl o=>naF o
variable{w}
def agX(hb:w.length<1048576):po ⟨w⟩=some (Sf w):=by
 have cg:room=140737488355328:=rfl
 have key:∃x,po ⟨w⟩=some x/\x=Sf w:=by
  unfold po
  unfold Sf
  generalize hT:Sg w (w.length+1) [] 0=T
  refine rT (fun z=>z=T) (Cf (fun z=>z=T) (eh (fun(s:List UInt8×Int)=>∃(j f:Nat),s.2=(j:Int)/\j<=w.length/\w.length -j+1<=f/\s.1.length<=j/\Sg w f s.1 j=T) (fun s=>w.length -s.2.toNat) _
   ⟨0,w.length+1,rfl,Nat.zero_le _,AT,Nat.zero_le _,hT⟩ A_ ?_) ?_) ?_
  ·rintro⟨o,a⟩ ⟨j,f,e,hj,hf,ho,hs⟩
   have e:a=(j:Int):=e
   subst e
   have ho:o.length<=j:=ho
   have hs:Sg w f o j=T:=hs
   obtain⟨f,rfl⟩:∃g,f=g+1:=⟨f -1,AT⟩
   rw[Sg]at hs
   cases hx:w[j]? with
   |none=>
    have:=rM hx
    rw[hx]at hs
    exact⟨_,an C_ rfl,hs⟩
   |some c=>
    obtain⟨hl,hi⟩:=dy hx
    rw[hx]at hs
    simp only at hs
    have w1:aC ((j:Int)+1)=((j+1:Nat):Int):=zf AT
    have w2:aC ((j:Int)+2)=((j+2:Nat):Int):=h_
    have w3:aC (((j+2:Nat):Int)+1)=((j+3:Nat):Int):=zf AT
    have gd:(decide ((j:Int)<(w.length:Int)))=true:=C_
    have np:0<=(j:Int)/\(j:Int)<w.length:=AT
    simp only[hi,w1,w2]
    by_cases n35:((c.toNat:Int)==35)=true
    ·rw[if_pos n35]at hs
     cases hy:w[j+2]? with
     |none=>
      have hl2:=rM hy
      rw[hy]at hs
      have dg:decide (((j+2:Nat):Int)>=(w.length:Int))=true:=C_
      simp_all
     |some y=>
      obtain⟨hl2,hi2⟩:=dy hy
      rw[hy]at hs
      obtain⟨x,hz⟩:∃x,w[j+1]? =some x:=⟨w[j+1],List.getElem?_eq_getElem AT⟩
      obtain⟨hl3,hi3⟩:=dy hz
      rw[hz]at hs
      simp only at hs
      have dg:decide (((j+2:Nat):Int)>=(w.length:Int))=false:=C_
      simp only[hi2,hi3,dg,Bool.false_or,Bool.not_false]
      by_cases hxn:IM x<0
      ·rw[if_pos A_]at hs
       exact⟨_,aM gd (ay np (dm (aM n35 (ay AT (ah (zW x) (ay AT (ah (whn A_) (aM C_ rfl)))))) rfl)),hs⟩
      ·have dx:decide (IM x<0)=false:=by simpa using hxn
       by_cases hyn:IM y<0
       ·rw[if_pos A_]at hs
        exact⟨_,aM gd (ay np (dm (aM n35 (ay AT (ah (zW x) (ay AT (ah (by rw[dx];exact zW y) (aM A_ rfl)))))) rfl)),hs⟩
       ·rw[if_neg C_]at hs
        refine⟨_,aM gd (ay np (dm (aM n35 (ay AT (ah (zW x) (ay AT (ah (by rw[dx];exact zW y) (an C_ (ay AT (ah (zW x) (ay AT (ah (zW y) rfl)))))))))) (ay C_ rfl))),⟨j+3,f,w3,AT,AT,A_,hs⟩,?_⟩
        grind
    ·rw[if_neg n35]at hs
     refine⟨_,aM gd (ay np (dm (an n35 rfl) (ay C_ rfl))),⟨j+1,f,w1,AT,AT,A_,hs⟩,?_⟩
     grind
  ·rintro z rfl
   cases z with
   |inl o=>simp_all
   |inr e=>simp_all
  ·rintro z rfl
   cases z with
   |inr e=>simp_all
   |inl o=>
    show∃x,(aZ (kc (!(decide ((o.length:Int)>127))) 0 (fB o 0)) fun r22=>_)=some x/\x=naF o
    unfold naF
    cases hd:decide ((o.length:Int)>127)with
    |true=>simp_all
    |false=>
     rw[Bool.not_false,Bool.false_or]
     by_cases h:(decide (Lib.indexByte o 0>=0))=true
     ·exact⟨_,ah (show kc true 0 (fB o 0)=some _ from rfl) (aM h rfl),by rw[if_pos h]⟩
     ·exact⟨_,ah (show kc true 0 (fB o 0)=some _ from rfl) (an h rfl),by rw[if_neg h]⟩
 grind
end
def qJ:List UInt8->List UInt8×Option (List UInt8)
 |[]=>([],none)
 |c::l=>if(c.toNat:Int)==46 then([],some l)else(c::(qJ l).1,(qJ l).2)
def Iq:∀(l:List UInt8),(match(qJ l).2 with
 |none=>Lib.indexByte l 46=-1/\(qJ l).1=l
 |some r=>Lib.indexByte l 46=((qJ l).1.length:Int)/\l=(qJ l).1++46::r)
 |[]=>⟨rfl,rfl⟩
 |c::l=>by
  have e:=of_decide_eq_true (nE (fun c=>decide ((c==46)=(c.toNat==46))) By c)
  have ih:=Iq l
  rw[qJ,Lib.indexByte]
  grind
def S0(l:List UInt8):(qJ l).1.length+((qJ l).2.getD []).length<=l.length:=by
 have:=Iq l
 grind
def EV:Nat->List UInt8->Int
 |0,_=>0
 |k+1,l=>(match l with
  |[]=>0
  |c::l=>((c.toNat:Int) -48)*10^k+EV k l)
def P0:∀(k:Nat)(l:List UInt8),l.all fI=true->0<=EV k l/\EV k l<10^k
 |0,_,_=>⟨Int.le_refl _,by show 0<1;decide⟩
 |k+1,[],_=>⟨Int.le_refl _,by exact Int.pow_pos BY⟩
 |k+1,c::l,h=>by
  rw[List.all_cons,Bool.and_eq_true]at h
  have ih:=P0 k l h.2
  have hd:=by have:=h.1;unfold fI at this;simp at this;omega
  show 0<=(c.toNat -48)*10^k+EV k l/\(c.toNat -48)*10^k+EV k l<_
  have e:10^(k+1)=10*10^k:=A_
  have h1:0<=((c.toNat:Int) -48)*10^k:=Int.mul_nonneg AT AT
  have h2:((c.toNat:Int) -48)*10^k<=9*10^k:=Int.mul_le_mul_of_nonneg_right AT AT
  omega
theorem CS:∀(l:List UInt8)(n:Int),0<=n->l.all fI=true->l.length<=6->(n+1)*10^l.length<=1000000->nY l (n,false)=(n*10^l.length+EV l.length l,0)
 |[],n,_,_,_,_=>by show(n,(0:Int))=(n*1+0,0);grind
 |c::l,n,h0,h,hl,hb=>by
  rw[List.all_cons,Bool.and_eq_true]at h
  have hd:48<=(c.toNat:Int)/\(c.toNat:Int)<=57:=by have:=h.1;unfold fI at this;simp at this;omega
  have hp:(0:Int)<10^l.length:=Int.pow_pos B_
  have e:(10:Int)^(l.length+1)=10*10^l.length:=by rw[Int.pow_succ,Int.mul_comm]
  rw[List.length_cons,e]at hb
  have hb':(10*n+((c.toNat:Int) -48)+1)*10^l.length<=1000000:=by
   refine Int.le_trans (Int.mul_le_mul_of_nonneg_right (c:=10^l.length) (show 10*n+((c.toNat:Int) -48)+1<=(n+1)*10 by omega) AT) ?_
   rw[Int.mul_assoc];exact hb
  have hn:n<=1000000:=by
   have:n+1<=(n+1)*(10*10^l.length):=by
    have:(n+1)*1<=(n+1)*(10*10^l.length):=Int.mul_le_mul_of_nonneg_left AT AT
    omega
   omega
  have hs:rS (n,false) c=(10*n+((c.toNat:Int) -48),false):=by
   unfold rS
   have:decide (n>(2147483647 -((c.toNat:Int) -48)).tdiv 10)=false:=by
    rw[decide_eq_false_iff_not,Int.tdiv_eq_ediv_of_nonneg AT]
    omega
   simp[this]
  rw[nY,if_pos h.1,hs,CS l _ AT h.2 A_ hb',List.length_cons,e]
  grind [EV,Int.add_mul,Int.mul_comm,Int.mul_assoc]
theorem PZ:∀(k:Nat)(l:List UInt8),EV k ((l++List.replicate k 48).take k)=EV k l
 |0,_=>rfl
 |k+1,[]=>by
  have z:∀k m,EV k (List.replicate m 48)=0:=by
   intro k
   induction k with
   |zero=>intro m;rfl
   |succ k ih=>
    intro m
    cases m with
    |zero=>rfl
    |succ m=>grind [EV,List.replicate]
  grind
 |k+1,c::l=>by
  show(c.toNat -48)*10^k+EV k ((l++List.replicate (k+1) 48).take k)=(c.toNat -48)*10^k+EV k l
  rw[<-PZ k l,List.replicate_succ',<-List.append_assoc,List.take_append_of_le_length BY]
def Yo(sg:Int)(wh:List UInt8)(ro:Option (List UInt8)):aa×Int:=
 if(wh.length+(ro.getD []).length==0)||!wh.all fI||!(ro.getD []).all fI then(⟨0,0,⟨[]⟩,[]⟩,11)
 else if(nY wh (0,false)).2 !=0 then(⟨0,0,⟨[]⟩,[]⟩,5)
 else match ro with
  |none=>(⟨2,sg*(nY wh (0,false)).1,⟨[]⟩,[]⟩,0)
  |some r=>if(nY wh (0,false)).1*1000000+EV 6 r>2147483647000000 then(⟨0,0,⟨[]⟩,[]⟩,5)else(⟨3,sg*((nY wh (0,false)).1*1000000+EV 6 r),⟨[]⟩,[]⟩,0)
def nuB(sg:Int)(body:List UInt8):aa×Int:=Yo sg (qJ body).1 (qJ body).2
def Sh(s:List UInt8):aa×Int:=match s with
 |[]=>nuB 1 []
 |c::r=>if(c.toNat:Int)==45 then nuB (-1) r else if(c.toNat:Int)==43 then nuB 1 r else nuB 1 (c::r)
def KD:∀(l:List UInt8)(n:Int)(o:Bool),0<=n->n<=2147483647->l.all fI=true->0<=(nY l (n,o)).1/\(nY l (n,o)).1<=2147483647/\((nY l (n,o)).2=0\/(nY l (n,o)).2=5)
 |[],n,o,h0,h1,_=>by
  rw[nY]
  grind
 |c::l,n,o,h0,h1,h=>by
  rw[List.all_cons,Bool.and_eq_true]at h
  have hd:=by have:=h.1;unfold fI at this;omega
  rw[nY,if_pos h.1]
  cases hs:rS (n,o) c with
  |mk m p=>
   have hm:0<=m/\m<=2147483647:=by
    unfold rS at hs
    simp at hs
    split at hs
    ·grind
    ·grind
   exact KD l m p hm.1 hm.2 h.2
def Xz(s:List UInt8)(x:UInt8):cZ ⟨s⟩ ⟨[x]⟩=some (match s with
 |[]=>false
 |c::_=>c==x):=by
 unfold cZ cW
 cases s with
 |nil=>simp_all
 |cons c r=>
  have e1:decide ((((⟨c::r⟩:bg).b.length):Int)>=(((⟨[x]⟩:bg).b.length:Nat)))=true:=A_
  have e2:(bg.mk (part (c::r) 0 ((((⟨[x]⟩:bg).b.length:Nat))))).b=[c]:=D_
  simp_all
def abJ(body:List UInt8)(hb:body.length<1048576):nn ⟨body⟩ ⟨[46]⟩=some (⟨(qJ body).1⟩,⟨(qJ body).2.getD []⟩,(qJ body).2.isSome):=by
 have tI:gK ⟨body⟩ ⟨[46]⟩=some (Lib.indexByte body 46):=rfl
 have:=Iq body
 refine ah (a:=(⟨(qJ body).1⟩,⟨(qJ body).2.getD []⟩,(qJ body).2.isSome)) (ah tI ?_) rfl
 cases h:(qJ body).2 with
 |none=>grind
 |some r=>
  rw[h]at this
  obtain⟨i1,i2⟩:=this
  have hl:=congrArg List.length i2
  rw[List.length_append,List.length_cons]at hl
  rw[i1]
  generalize(qJ body).1=wh at*
  have w1:aC (wh.length+(((⟨[46]⟩:bg).b.length):Int))=((wh.length+1):Int):=by exact zf AT
  refine aM BY (ay A_ (ay A_ ?_))
  have p1:part body 0 wh.length=wh:=by
   conv=>lhs;rw[i2]
   exact List.take_left
  have p2:part body ((wh.length+1:Nat):Int) body.length=r:=by
   unfold part
   rw[Int.toNat_natCast,show(body.length -((wh.length+1:Nat):Int)).toNat=r.length by omega]
   conv=>lhs;rw[i2]
   rw[List.drop_append,List.drop_eq_nil_of_le AT,show wh.length+1 -wh.length=1 by omega]
   exact List.take_length
  grind
def nb0(k:Nat):((k:Int)==0)=(k==0):=A_
def acQ(r:List UInt8)(hb:r.length<1048576)(h:r.all fI=true):jJ ⟨r⟩=some (EV 6 r):=by
 have e:(bg.mk (part (bg.mk (r++(bg.mk [48,48,48,48,48,48]).b)).b 0 6)).b=(r++List.replicate 6 48).take 6:=D_
 refine ay (by grind [TZ]) (ay ⟨Int.le_refl _,BY,A_⟩ (ah (a:=(EV 6 r,0)) ?_ rfl))
 unfold my
 rw[e]
 have hlen:((r++List.replicate 6 48).take 6).length=6:=BY
 have ee:((r++List.replicate 6 48).take 6).all fI=true:=by
  rw[List.all_eq_true]
  intro x hx
  rcases List.mem_append.1 (List.mem_of_mem_take hx)with h1|h1
  ·grind
  ·rw[(List.mem_replicate.1 h1).2];rfl
 rw[CS _ 0 (Int.le_refl _) ee AT A_,hlen,PZ]
 simp
def U5{s:List UInt8}{F:Int×bg->Option (aa×Int)}{o:Option (Int×bg)}{sg:Int}{body:List UInt8}{r:aa×Int}(h:o=some (sg,⟨body⟩))(k:F (sg,⟨body⟩)=some r)(e:Sh s=r):jn o F=some (Sh s):=H_
def akR(s:List UInt8)(hb:s.length<1048576):oH ⟨s⟩=some (Sh s):=by
 unfold oH
 obtain⟨sg,body,h1,h2,h3,h4⟩:∃(sg:Int)(body:List UInt8),(aZ (cZ ⟨s⟩ (bg.mk [45])) fun r4=>
  if r4 then
   a8 (0<=(1:Int)/\1<=(((⟨s⟩:bg).b.length:Nat):Int)/\(((⟨s⟩:bg).b.length:Nat):Int)<=(((⟨s⟩:bg).b.length:Nat):Int))<|
   some ((-1),bg.mk (part s 1 (s.length:Int)))
  else
   aZ (cZ ⟨s⟩ (bg.mk [43])) fun r5=>
   if r5 then
    a8 (0<=(1:Int)/\1<=(((⟨s⟩:bg).b.length:Nat):Int)/\(((⟨s⟩:bg).b.length:Nat):Int)<=(((⟨s⟩:bg).b.length:Nat):Int))<|
    some (1,bg.mk (part s 1 (s.length:Int)))
   else
    some (1,⟨s⟩))=some (sg,⟨body⟩)/\Sh s=nuB sg body/\(sg=1\/sg=-1)/\body.length<=s.length:=by
  cases s with
  |nil=>exact⟨1,[],ah (Xz [] 45) (an nF (ah (Xz [] 43) (an nF rfl))),rfl,.inl rfl,Nat.le_refl _⟩
  |cons c r=>
   have e45:(c==45)=((c.toNat:Int)==45):=of_decide_eq_true (nE (fun c=>decide ((c==45)=((c.toNat:Int)==45))) By c)
   have e43:(c==43)=((c.toNat:Int)==43):=of_decide_eq_true (nE (fun c=>decide ((c==43)=((c.toNat:Int)==43))) By c)
   have pr:part (c::r) 1 ((c::r).length:Int)=r:=by
    unfold part
    rw[show(1:Int).toNat=1 from rfl,List.length_cons,show(((r.length+1:Nat):Int) -1).toNat=r.length by omega]
    show r.take r.length=r
    exact List.take_length
   have nd:0<=(1:Int)/\1<=(((c::r).length:Nat):Int)/\(((c::r).length:Nat):Int)<=(((c::r).length:Nat):Int):=by rw[List.length_cons];omega
   have h45:=Xz (c::r) 45
   have h43:=Xz (c::r) 43
   simp only[e45]at h45
   simp only[e43]at h43
   by_cases c45:((c.toNat:Int)==45)=true
   ·refine⟨-1,r,ah h45 (aM c45 (ay nd ?_)),Xd8,.inr rfl,BY⟩
    rw[pr]
   ·by_cases c43:((c.toNat:Int)==43)=true
    ·refine⟨1,r,ah h45 (an c45 (ah h43 (aM c43 (ay nd ?_)))),Xd8,.inl rfl,BY⟩
     rw[pr]
    ·exact⟨1,c::r,ah h45 (an c45 (ah h43 (an c43 rfl))),Xd8,.inl rfl,Nat.le_refl _⟩
 refine U5 (r:=nuB sg body) h1 ?_ h2
 refine ah (abJ body AT) ?_
 have hlen:=S0 body
 unfold nuB
 generalize hwr:qJ body=q at hlen
 obtain⟨wh,ro⟩:=q
 show(aZ (kc (!((aC ((wh.length:Int)+((ro.getD []).length:Int)))==0)) false (oi ⟨wh⟩)) _)=some (Yo sg wh ro)
 unfold Yo
 have wl:aC ((wh.length:Int)+((ro.getD []).length:Int))=((wh.length+(ro.getD []).length:Nat):Int):=by
  have hlen:wh.length+(ro.getD []).length<=body.length:=hlen
  rw[ao AT AT];rfl
 have hlen:wh.length+(ro.getD []).length<=body.length:=hlen
 have wz:((aC ((wh.length:Int)+((ro.getD []).length:Int)))==0)=((wh.length+(ro.getD []).length)==0):=by rw[wl];exact nb0 _
 simp only[wz]
 cases hz:((wh.length+(ro.getD []).length)==0)with
 |true=>simp_all
 |false=>
  rw[Bool.false_or,Bool.not_false,JX]
  refine ah (show oi ⟨wh⟩=some (wh.all fI) from rfl) ?_
  cases ha:wh.all fI with
  |false=>simp_all
  |true=>
   rw[Bool.not_true,Bool.false_or,Bool.false_or,Bool.not_false,JX]
   refine ah (show oi ⟨ro.getD []⟩=some ((ro.getD []).all fI) from rfl) ?_
   cases hr:(ro.getD []).all fI with
   |false=>grind
   |true=>
    rw[Bool.not_true,if_neg nF]
    refine an nF (ay (by grind [TZ]) ?_)
    have d0:rS (0,false) 48=(0,false):=B_
    have hd:my (bg.mk ((bg.mk [48]).b++(⟨wh⟩:bg).b))=some (nY wh (0,false)):=by
     show some (nY (48::wh) (0,false))=_
     rw[nY,if_pos (show fI 48=true from rfl),d0]
    refine ah hd ?_
    have rg:=KD wh 0 false (Int.le_refl _) B_ ha
    generalize nY wh (0,false)=n at rg
    obtain⟨n,e⟩:=n
    obtain⟨n0,n1,n2⟩:=rg
    have n0:0<=n:=n0
    have n1:n<=2147483647:=n1
    have n2:e=0\/e=5:=n2
    rcases n2 with rfl|rfl
    ·refine an nF ?_
     have h0:¬(((n,(0:Int)).2 !=0)=true):=by show¬(((0:Int)!=0)=true);decide
     rw[if_neg h0]
     cases ro with
     |none=>
      refine aM rfl ?_
      show some ((⟨2,aC (sg*n),⟨[]⟩,[]⟩:aa),(0:Int))=some (⟨2,sg*n,⟨[]⟩,[]⟩,0)
      rw[ao A_ A_]
     |some r=>
      have hr:r.all fI=true:=hr
      have hrl:r.length<=body.length:=by simp only[Option.getD_some]at hlen;omega
      refine an nF (ah (acQ r AT hr) ?_)
      have pr:=P0 6 r hr
      have p6:EV 6 r<1000000:=pr.2
      have wN:aC (sg*(aC ((aC (n*1000000))+EV 6 r)))=sg*(n*1000000+EV 6 r):=by rw[ao (n:=n*1000000) AT AT,ao (n:=n*1000000+EV 6 r) AT AT,ao A_ A_]
      simp only[wN]
      have amX:aC (0 -2147483647000000)=-2147483647000000:=B_
      by_cases hov:n*1000000+EV 6 r>2147483647000000
      ·rw[if_pos hov]
       refine ah (a:=2) ?_ (aM rfl rfl)
       unfold oG
       refine dm (z:=.inl 2147483647000000) (an A_ (aM rfl rfl)) (aM ?_ rfl)
       grind
      ·rw[if_neg hov]
       refine ah (a:=0) ?_ (an B_ rfl)
       unfold oG
       refine dm (z:=.inl 2147483647000000) (an A_ (aM rfl rfl)) (an ?_ rfl)
       grind
    grind
def Fp:aa:=⟨0,0,⟨[]⟩,[]⟩
def U3(f:Nat):aH:=⟨0,f,f,Fp,⟨[]⟩⟩
def tok(f t:Nat)(q:aa×Int):aH×Int:=if q.2 !=0 then(U3 f,q.2)else(⟨1,f,t,q.1,⟨[]⟩⟩,0)
def Ay(f:Nat):(List UInt8×Nat)⊕Int->aH×Int
 |.inl r=>(⟨1,f,r.2,⟨4,0,⟨r.1⟩,[]⟩,⟨[]⟩⟩,0)
 |.inr e=>(U3 f,e)
def ac2(c:UInt8):Bool:=((((decide ((c.toNat:Int)>=48))&&(decide ((c.toNat:Int)<=57)))||((c.toNat:Int)==43))||((c.toNat:Int)==45))||((c.toNat:Int)==46)
section
variable(b:List UInt8)(last:Bool)
def MH(f:Nat)(c:UInt8):aH×Int:=
 if YY c then(if(decide ((u7 b f:Int)<(b.length:Int)))||last then(if ac2 c then tok f (u7 b f) (Sh (part b (f:Int) (u7 b f:Int)))else(⟨6,f,u7 b f,Fp,⟨part b (f:Int) (u7 b f:Int)⟩⟩,0))else(U3 f,6))
 else if(c.toNat:Int)==91 then(⟨2,f,((f+1:Nat):Int),Fp,⟨[]⟩⟩,0)
 else if(c.toNat:Int)==93 then(⟨3,f,((f+1:Nat):Int),Fp,⟨[]⟩⟩,0)
 else if(c.toNat:Int)==60 then(match b[f+1]? with
  |none=>(U3 f,zB last)
  |some d=>if(d.toNat:Int)==60 then(⟨4,f,((f+2:Nat):Int),Fp,⟨[]⟩⟩,0)else Ay f (GN b last (b.length+1) ([],-1) (f+1)))
 else if(c.toNat:Int)==62 then(match b[f+1]? with
  |none=>(U3 f,if last then 11 else 6)
  |some d=>if(d.toNat:Int)==62 then(⟨5,f,((f+2:Nat):Int),Fp,⟨[]⟩⟩,0)else(U3 f,11))
 else if(c.toNat:Int)==40 then Ay f (zl b last (b.length+1) 1 [] (f+1))
 else if(c.toNat:Int)==47 then(if(decide ((u7 b (f+1):Int)<(b.length:Int)))||last then tok f (u7 b (f+1)) (Sf (part b ((f+1:Nat):Int) (u7 b (f+1):Int)))else(U3 f,6))
 else(U3 f,11)
def iQ(k:Nat):aH×Int:=match b[F5 b k]? with
 |none=>(U3 (F5 b k),if last then 0 else 6)
 |some c=>MH b last (F5 b k) c
variable{b last}
def Ow(k:Nat)(hk:k<=b.length):k<=F5 b k/\F5 b k<=b.length:=Ox _ _ _ hk
def JB(k:Nat)(hk:k<=b.length):k<=u7 b k/\u7 b k<=b.length:=JD _ _ hk
def VP{k:Nat}{c:UInt8}(hx:b[k]? =some c)(hc:YY c=true):k<u7 b k:=by
 obtain⟨hl,_⟩:=dy hx
 unfold u7
 obtain⟨m,hm⟩:∃m,b.length=m+1:=⟨b.length -1,AT⟩
 rw[hm,J5]
 grind [JD]
def Ru{k e:Nat}{c:UInt8}(hx:b[k]? =some c)(h1:k<e)(h2:e<=b.length):part b (k:Int) (e:Int)=c::part b ((k+1:Nat):Int) (e:Int)/\(part b (k:Int) (e:Int)).length=e -k:=by
 obtain⟨hl,hc⟩:=List.getElem?_eq_some_iff.1 hx
 unfold part
 rw[Int.toNat_natCast,show(e -(k:Int)).toNat=(e -(k+1))+1 by omega,List.drop_eq_getElem_cons hl,List.take_succ_cons]
 grind
def Vk{k e:Nat}(h1:k<=e)(h2:e<=b.length):(part b (k:Int) (e:Int)).length=e -k:=by grind [part,List.length_take,List.length_drop,Int.toNat_natCast]
theorem ox:∀(f:Nat)(d:Int)(o:List UInt8)(j:Nat),j<=b.length->okP j b.length (zl b last f d o j)
 |0,d,o,j,_=>x7 last
 |f+1,d,o,j,hj=>by
  rw[zl]
  cases hx:b[j]? with
  |none=>exact x7 last
  |some c=>
   have hl:=(dy hx).1
   simp only
   have up:∀{r:(List UInt8×Nat)⊕Int}{j':Nat},j<j'->okP j' b.length r->okP j b.length r:=fun{r j'} h hr=>by
    cases r with
    |inl r=>exact⟨Nat.lt_trans h hr.1,hr.2⟩
    |inr e=>exact hr
   split
   ·have hp:=Ph (b:=b) (last:=last) (j+1) AT
    cases hes:Nq b last (j+1)with
    |inr e=>rw[hes]at hp;rw[hp];exact x7 last
    |inl r=>rw[hes]at hp;exact up (by have:=hp.1;omega) (ox f d _ r.2 hp.2.1)
   ·split
    ·cases hy:b[j+1]? with
     |none=>
      simp only
      split
      ·exact up (Nat.lt_succ_self j) (ox f d _ (j+1) AT)
      ·exact(by decide:(6:Int)≠0)
     |some e=>
      have hl2:=(dy hy).1
      simp only
      split
      ·exact up AT (ox f d _ (j+2) AT)
      ·exact up (Nat.lt_succ_self j) (ox f d _ (j+1) AT)
    ·split
     ·exact up (Nat.lt_succ_self j) (ox f _ _ (j+1) AT)
     ·split
      ·split
       ·exact⟨Nat.lt_succ_self j,A_⟩
       ·exact up (Nat.lt_succ_self j) (ox f _ _ (j+1) AT)
      ·exact up (Nat.lt_succ_self j) (ox f d _ (j+1) AT)
def Iz(f:Nat)(x:aH×Int×aq):aH×Int:=if x.2.1 !=0 then(U3 f,x.2.1)else(⟨x.1.Kind,f,x.2.2.at_,x.1.V,x.1.S⟩,0)
def acy(hb:b.length<1048576)(f:Nat)(c:UInt8)(hx:b[f]? =some c):∃x,iD ⟨Bk.zero,b,(f:Int),last⟩ c=some x/\Iz f x=MH b last f c:=by
 obtain⟨hl,hi⟩:=dy hx
 have hw:=zf (n:=f) AT
 unfold iD MH
 refine kS (fun z=>z=YY c) ⟨_,Lv c,rfl⟩ ?_
 rintro _ rfl
 have hru:=JB (b:=b) f AT
 cases hr:YY c with
 |true=>
  have hlt:=VP hx hr
  obtain⟨p1,p2⟩:=Ru hx hlt hru.2
  simp only[if_true]
  unfold gI
  rw[aaE AT Bk.zero f last AT,aL]
  show∃x,(aZ (if(!((decide ((u7 b f:Int)<(b.length:Int)))||last))=true then _ else a8 (0<=(0:Int)/\(0:Int)<((part b (f:Int) (u7 b f:Int)).length:Int)) (if ac2 (ix (part b (f:Int) (u7 b f:Int)) 0)=true then _ else _)) _)=some x/\_
  have hix:ix (part b (f:Int) (u7 b f:Int)) 0=c:=by rw[p1];rfl
  rw[hix]
  cases hd:(decide ((u7 b f:Int)<(b.length:Int)))||last with
  |false=>exact⟨_,ah (aM rfl rfl) rfl,by rw[if_neg nF];rfl⟩
  |true=>
   rw[if_pos rfl]
   have nd:0<=(0:Int)/\(0:Int)<((part b (f:Int) (u7 b f:Int)).length:Int):=by rw[p2];omega
   by_cases hn:ac2 c=true
   ·rw[if_pos hn,if_pos hn]
    refine⟨_,ah (an nT (ay nd (ah (akR _ A_) rfl))) rfl,?_⟩
    grind [Iz,tok]
   ·rw[if_neg hn,if_neg hn]
    exact⟨_,ah (an nT (ay nd rfl)) rfl,rfl⟩
 |false=>
  rw[if_neg nF]
  simp only[hw]
  rw[if_neg nF]
  by_cases h91:((c.toNat:Int)==91)=true
  ·rw[if_pos h91,if_pos h91];exact⟨_,rfl,rfl⟩
  rw[if_neg h91,if_neg h91]
  by_cases h93:((c.toNat:Int)==93)=true
  ·rw[if_pos h93,if_pos h93];exact⟨_,rfl,rfl⟩
  rw[if_neg h93,if_neg h93]
  by_cases h60:((c.toNat:Int)==60)=true
  ·rw[if_pos h60,if_pos h60]
   unfold iC
   cases hy:b[f+1]? with
   |none=>exact⟨_,ah (ah (sd hy) (aM rfl (ah (PJ ..) rfl))) rfl,by unfold Iz;exact if_pos (by grind [zB])⟩
   |some d=>
    have hl2:=(dy hy).1
    have hw2:=zf (n:=f+1) AT
    simp only
    by_cases hd:((d.toNat:Int)==60)=true
    ·rw[if_pos hd]
     refine⟨_,ah (ah (fm hy) (an nT (aM hd rfl))) rfl,?_⟩
     show((⟨4,f,aC (((f+1:Nat):Int)+1),Fp,⟨[]⟩⟩:aH),(0:Int))=_
     rw[hw2]
    ·rw[if_neg hd]
     obtain⟨x,x1,x2⟩:=acw (last:=last) hb false (f+1) AT
     refine⟨_,ah (ah (fm hy) (an nT (an hd (ah (show gj ⟨Bk.zero,b,_,last⟩=_ from x1) rfl)))) rfl,?_⟩
     have hp:=Ch (b:=b) (last:=last) (b.length+1) ([],-1) (f+1) AT
     cases hq:GN b last (b.length+1) ([],-1) (f+1)with
     |inl r=>
      rw[hq]at x2
      obtain⟨y1,y2,y3⟩:=x2
      unfold Iz Ay
      grind
     |inr e=>
      rw[hq]at x2 hp
      have x2:x.2.1=e:=x2
      have hp:e≠0:=hp
      unfold Iz Ay
      grind
  rw[if_neg h60,if_neg h60]
  by_cases h62:((c.toNat:Int)==62)=true
  ·rw[if_pos h62,if_pos h62]
   unfold iA
   cases hy:b[f+1]? with
   |none=>
    cases last with
    |true=>exact⟨_,ah (ah (sd hy) (an nF (aM rfl rfl))) rfl,rfl⟩
    |false=>exact⟨_,ah (ah (sd hy) (aM rfl rfl)) rfl,rfl⟩
   |some d=>
    have hl2:=(dy hy).1
    have hw2:=zf (n:=f+1) AT
    simp only
    by_cases hd:((d.toNat:Int)==62)=true
    ·rw[if_pos hd]
     refine⟨_,ah (ah (fm hy) (an nF (an A_ rfl))) rfl,?_⟩
     show((⟨5,f,aC (((f+1:Nat):Int)+1),Fp,⟨[]⟩⟩:aH),(0:Int))=_
     rw[hw2]
    ·rw[if_neg hd]
     exact⟨_,ah (ah (fm hy) (an nF (aM A_ rfl))) rfl,rfl⟩
  rw[if_neg h62,if_neg h62]
  by_cases h40:((c.toNat:Int)==40)=true
  ·rw[if_pos h40,if_pos h40]
   obtain⟨x,x1,x2⟩:=agZ (last:=last) hb false (f+1) AT
   refine⟨_,ah (show gU ⟨Bk.zero,b,_,last⟩=_ from x1) rfl,?_⟩
   have hp:=ox (b:=b) (last:=last) (b.length+1) 1 [] (f+1) AT
   cases hq:zl b last (b.length+1) 1 [] (f+1)with
   |inl r=>
    rw[hq]at x2
    obtain⟨y1,y2,y3⟩:=x2
    unfold Iz Ay
    grind
   |inr e=>
    rw[hq]at x2 hp
    have x2:x.2.1=e:=x2
    have hp:e≠0:=hp
    unfold Iz Ay
    grind
  rw[if_neg h40,if_neg h40]
  by_cases h47:((c.toNat:Int)==47)=true
  ·rw[if_pos h47,if_pos h47]
   have hr2:=JB (b:=b) (f+1) AT
   have pl:=Vk (b:=b) hr2.1 hr2.2
   refine kS (fun z=>z=_) ⟨_,aaE AT Bk.zero (f+1) last AT,rfl⟩ ?_
   rintro _ rfl
   cases hd:(decide ((u7 b (f+1):Int)<(b.length:Int)))||last with
   |false=>exact⟨_,aM rfl rfl,by rw[if_neg nF];rfl⟩
   |true=>
    rw[if_pos rfl]
    refine⟨_,an nT (ah (agX A_) rfl),?_⟩
    grind [Iz,tok]
  rw[if_neg h47,if_neg h47]
  exact⟨_,rfl,rfl⟩
theorem A5(hb:b.length<1048576)(k:Nat)(hk:k<=b.length):eH b (k:Int) last=some (iQ b last k):=by
 unfold eH iQ
 have hs:=Ow k hk
 refine an A_ (ah (agY AT k hk) ?_)
 cases hx:b[F5 b k]? with
 |none=>
  have:=rM hx
  refine aM A_ ?_
  cases last<;>rfl
 |some c=>
  obtain⟨hl,hi⟩:=dy hx
  obtain⟨x,x1,x2⟩:=acy hb (F5 b k) c hx
  refine an A_ (ay AT ?_)
  rw[hi]
  refine ah x1 ?_
  show _=some (MH b last (F5 b k) c)
  rw[<-x2]
  unfold Iz
  by_cases he:(x.2.1 !=0)=true
  ·rw[if_pos he,if_pos he];rfl
  grind
def tR(t:aH):uq:=⟨t.Kind,t.aP,t.To,t.V,t.S⟩
end
structure AG(b:List UInt8)(k:Nat)(t:aH):Prop where
 to:∃j:Nat,t.To=(j:Int)/\j<=b.length/\k<=j/\(t.Kind≠0->k<j)
 kd:t.Kind=0\/t.Kind=1\/t.Kind=2\/t.Kind=3\/t.Kind=4\/t.Kind=5\/t.Kind=6
 nm:t.Kind=1->t.V.Kind=5->t.V=⟨5,0,t.V.S,[]⟩
theorem acS(w:List UInt8)(h:(Sf w).1.Kind=5):(Sf w).1=⟨5,0,(Sf w).1.S,[]⟩:=by
 unfold Sf at h⊢
 cases hx:Sg w (w.length+1) [] 0 with
 |inr e=>grind
 |inl o=>
  unfold naF at h⊢
  grind
def N7(sg:Int)(wh:List UInt8)(ro:Option (List UInt8)):(Yo sg wh ro).1.Kind≠5:=by
 unfold Yo
 grind
theorem ac1(s:List UInt8):(Sh s).1.Kind≠5:=by
 cases s with
 |nil=>exact N7 _ _ _
 |cons c r=>
  show(if _ then _ else _:aa×Int).1.Kind≠5
  split
  ·exact N7 _ _ _
  ·split<;>exact N7 _ _ _
def Be{b:List UInt8}{last:Bool}{k:Nat}(hk:k<=b.length)(h:(iQ b last k).2=0):AG b k (iQ b last k).1:=by
 have hs:=Ow (b:=b) k hk
 unfold iQ at h⊢
 cases hx:b[F5 b k]? with
 |none=>
  rw[hx]at h
  exact⟨⟨F5 b k,rfl,hs.2,hs.1,fun h=>absurd rfl h⟩,.inl rfl,fun h=>F_⟩
 |some c=>
  rw[hx]at h
  have h:(MH b last (F5 b k) c).2=0:=h
  show AG b k (MH b last (F5 b k) c).1
  generalize hf:F5 b k=f at*
  have hfl:f<b.length:=(List.getElem?_eq_some_iff.1 hx).1
  have str:∀T:(List UInt8×Nat)⊕Int,okP (f+1) b.length T->(Ay f T).2=0->AG b k (Ay f T).1:=fun T hT h=>by
   cases T with
   |inl r=>exact⟨⟨r.2,rfl,hT.2,by have:=hT.1;omega,fun _=>by have:=hT.1;omega⟩,.inr (.inl rfl),fun _ h=>F_⟩
   |inr e=>exact absurd h hT
  have tk:∀(e:Nat)(q:aa×Int),f<e->e<=b.length->(q.2=0->q.1.Kind=5->q.1=⟨5,0,q.1.S,[]⟩)->(tok f e q).2=0->AG b k (tok f e q).1:=fun e q h1 h2 hq h=>by
   unfold tok at h⊢
   by_cases hc:(q.2 !=0)=true
   ·grind
   ·rw[if_neg hc]
    have hc:q.2=0:=I_
    exact⟨⟨e,rfl,h2,AT,fun _=>AT⟩,.inr (.inl rfl),fun _ h=>hq hc h⟩
  have one:∀(kd:Int)(n:Nat),f<n->n<=b.length->(kd=2\/kd=3\/kd=4\/kd=5)->∀t:aH,t=⟨kd,f,(n:Int),Fp,⟨[]⟩⟩->AG b k t:=fun kd n h1 h2 hkd t ht=>by
   subst ht
   refine⟨⟨n,rfl,h2,AT,fun _=>AT⟩,?_,fun h=>?_⟩
   ·grind
   grind
  unfold MH at h⊢
  split at h
  ·rename_i hc
   rw[if_pos hc]
   have hr:=VP hx hc
   have hr2:=(JB (b:=b) f AT).2
   split at h
   ·rename_i hl
    rw[if_pos hl]
    split at h
    ·rename_i hn
     rw[if_pos hn]
     grind [absurd,ac1]
    ·rename_i hn
     rw[if_neg hn]
     exact⟨⟨u7 b f,rfl,hr2,AT,fun _=>AT⟩,BY,fun h=>F_⟩
   ·cases h
  ·rename_i hc
   rw[if_neg hc]
   split at h
   ·rename_i h1;rw[if_pos h1]
    exact one 2 (f+1) AT AT BY _ rfl
   ·rename_i h1;rw[if_neg h1]
    split at h
    ·rename_i h2;rw[if_pos h2]
     exact one 3 (f+1) AT AT BY _ rfl
    ·rename_i h2;rw[if_neg h2]
     split at h
     ·rename_i h3;rw[if_pos h3]
      cases hd:b[f+1]? with
      |none=>grind [zB,absurd]
      |some d=>
       have hd1:f+1<b.length:=(List.getElem?_eq_some_iff.1 hd).1
       rw[hd]at h
       simp only at h⊢
       split at h
       ·rename_i h4;rw[if_pos h4]
        exact one 4 (f+2) AT AT BY _ rfl
       ·rename_i h4;rw[if_neg h4]
        grind [Ch]
     ·rename_i h3;rw[if_neg h3]
      split at h
      ·rename_i h4;rw[if_pos h4]
       cases hd:b[f+1]? with
       |none=>grind
       |some d=>
        have hd1:f+1<b.length:=(List.getElem?_eq_some_iff.1 hd).1
        rw[hd]at h
        simp only at h⊢
        split at h
        ·rename_i h5;rw[if_pos h5]
         exact one 5 (f+2) AT AT BY _ rfl
        ·cases h
      ·rename_i h4;rw[if_neg h4]
       split at h
       ·rename_i h5;rw[if_pos h5]
        grind [ox]
       ·rename_i h5;rw[if_neg h5]
        split at h
        ·rename_i h6;rw[if_pos h6]
         have hr2:=JB (b:=b) (f+1) AT
         split at h
         ·rename_i hl
          rw[if_pos hl]
          grind [acS]
         ·cases h
        ·cases h
def Lf(v:aa):Prop:=v.L=[]/\v.Kind≠8
def U4(sg:Int)(wh:List UInt8)(ro:Option (List UInt8)):Lf (Yo sg wh ro).1:=by
 unfold Yo Lf
 grind
def ahp(s:List UInt8):Lf (Sh s).1:=by
 cases s with
 |nil=>exact U4 _ _ _
 |cons c r=>
  show Lf (if _ then _ else _:aa×Int).1
  split
  ·exact U4 _ _ _
  ·split<;>exact U4 _ _ _
def ahd(w:List UInt8):Lf (Sf w).1:=by grind [Sf,Sg,naF,Lf]
def Lf0:Lf Fp:=⟨rfl,B_⟩
def abk{f e:Nat}{q:aa×Int}(h:Lf q.1):Lf (tok f e q).1.V:=by
 unfold tok
 split
 ·exact Lf0
 ·exact h
def aif{f:Nat}{T:(List UInt8×Nat)⊕Int}:Lf (Ay f T).1.V:=by cases T<;>exact⟨rfl,fun h=>F_⟩
theorem ain(b:List UInt8)(last:Bool)(f:Nat)(c:UInt8):Lf (MH b last f c).1.V:=by
 unfold MH
 repeat' split
 all_goals first|exact Lf0|exact⟨rfl,fun h=>F_⟩|exact abk (ahp _)|exact abk (ahd _)|exact aif
def ak0(b:List UInt8)(last:Bool)(k:Nat):Lf (iQ b last k).1.V:=by
 unfold iQ
 split
 ·exact Lf0
 grind [ain]
def EZ(b c:List UInt8):Prop:=b.length<=c.length/\∀(j:Nat)(x:UInt8),b[j]? =some x->c[j]? =some x
section
variable{b c:List UInt8}{l:Bool}
theorem EZ.part(hp:EZ b c){i j:Nat}(h:j<=b.length):part c (i:Int) (j:Int)=part b (i:Int) (j:Int):=by
 unfold AB.part
 refine List.ext_getElem? fun m=>?_
 rw[List.getElem?_take,List.getElem?_take]
 split
 ·have hlt:i+m<b.length:=AT
  have:=hp.2 _ _ (List.getElem?_eq_getElem hlt)
  grind
 ·rfl
def P6(hp:EZ b c):∀(f f':Nat)(q:Bool)(j:Nat),b.length -j<=f->c.length -j<=f'->b[JH b f q j]? ≠none->JH c f' q j=JH b f q j
 |0,f',q,j,h,h',hn=>by grind [JH,absurd,List.getElem?_eq_none]
 |f+1,f',q,j,h,h',hn=>by
  cases hx:b[j]? with
  |none=>grind [JH,absurd]
  |some x=>
   have hl:=(dy hx).1
   have hc:=hp.2 _ _ hx
   have:=hp.1
   obtain⟨g,rfl⟩:∃g,f'=g+1:=⟨f' -1,AT⟩
   have ih:=fun q=>P6 hp f g q (j+1) AT AT
   rw[JH]at hn
   rw[JH,JH]
   grind
def JC(hp:EZ b c):∀(f f':Nat)(j:Nat),b.length -j<=f->c.length -j<=f'->J5 b f j<b.length->J5 c f' j=J5 b f j
 |0,f',j,h,h',hn=>by grind [J5]
 |f+1,f',j,h,h',hn=>by
  cases hx:b[j]? with
  |none=>grind [rM,J5]
  |some x=>
   have hl:=(dy hx).1
   have hc:=hp.2 _ _ hx
   have:=hp.1
   obtain⟨g,rfl⟩:∃g,f'=g+1:=⟨f' -1,AT⟩
   have ih:=JC hp f g (j+1) AT AT
   rw[J5]at hn
   rw[J5,J5]
   grind
theorem Px(hp:EZ b c):∀(f f':Nat)(q:List UInt8×Int)(j:Nat),f<=f'->GN b false f q j≠.inr 6->GN c l f' q j=GN b false f q j
 |0,_,q,j,_,h=>absurd rfl h
 |f+1,f',q,j,hf,h=>by
  obtain⟨g,rfl⟩:∃g,f'=g+1:=⟨f' -1,AT⟩
  have ih:=fun q=>Px hp f g q (j+1) AT
  cases hx:b[j]? with
  |none=>rw[GN,hx]at h;exact absurd rfl h
  |some x=>
   rw[GN]at h
   rw[GN,hp.2 _ _ hx,GN]
   grind
theorem PT(hp:EZ b c):∀(k:Nat)(n:Int)(j:Nat),(yO b k n j).2.2=false->yO c k n j=yO b k n j
 |0,_,_,_=>rfl
 |k+1,n,j,h=>by
  cases hx:b[j]? with
  |none=>grind [yO]
  |some x=>
   rw[yO,hx]at h
   rw[yO,hp.2 _ _ hx,yO,hx]
   simp at h⊢
   split at h<;>rename_i h1
   ·grind
   ·simp[if_neg h1];exact PT hp k _ _ h
theorem Xp(hp:EZ b c)(j:Nat)(h:Nq b false j≠.inr 6):Nq c l j=Nq b false j:=by
 cases hx:b[j]? with
 |none=>unfold Nq at h;rw[hx]at h;exact absurd rfl h
 |some x=>
  unfold Nq at h⊢
  rw[hx]at h⊢
  rw[hp.2 _ _ hx]
  simp only at h⊢
  split at h<;>rename_i h1
  ·grind
  simp only[if_neg h1]
  split at h<;>rename_i h1
  ·grind
  simp only[if_neg h1]
  split at h<;>rename_i h1
  ·grind
  simp only[if_neg h1]
  split at h<;>rename_i h1
  ·grind
  simp only[if_neg h1]
  split at h<;>rename_i h1
  ·grind
  simp only[if_neg h1]
  split at h<;>rename_i h1
  ·grind
  simp only[if_neg h1]
  split at h<;>rename_i h1
  ·simp only[if_pos h1]
   cases hy:b[j+1]? with
   |none=>grind
   |some y=>rw[hp.2 _ _ hy]
  simp only[if_neg h1]
  split at h<;>rename_i h2
  ·grind
  simp only[if_neg h2]
  cases ho:(yO b 2 ((x.toNat:Int) -48) (j+1)).2.2 with
  |true=>grind
  |false=>grind [PT]
theorem Qi(hp:EZ b c):∀(f f':Nat)(d:Int)(o:List UInt8)(j:Nat),f<=f'->zl b false f d o j≠.inr 6->zl c l f' d o j=zl b false f d o j
 |0,_,_,_,_,_,h=>absurd rfl h
 |f+1,f',d,o,j,hf,h=>by
  obtain⟨g,rfl⟩:∃g,f'=g+1:=⟨f' -1,AT⟩
  have ih:=fun d o j=>Qi hp f g d o j AT
  cases hx:b[j]? with
  |none=>rw[zl,hx]at h;exact absurd rfl h
  |some x=>
   rw[zl,hx]at h
   rw[zl,hp.2 _ _ hx,zl]
   simp at h⊢
   split at h
   ·grind [Xp,Nq]
   split at h
   ·cases hy:b[j+1]? with
    |none=>grind
    |some y=>
     rw[hp.2 _ _ hy]
     grind
   grind
theorem Qe{f:Nat}{r:(List UInt8×Nat)⊕Int}(h:(Ay f r).2≠6):r≠.inr 6:=fun e=>by rw[e]at h;exact h rfl
theorem Zn(hp:EZ b c){f:Nat}(hf:f<b.length)(x:UInt8)(h:(MH b false f x).2≠6):MH c l f x=MH b false f x:=by
 have hpl:=hp.1
 unfold MH at h⊢
 split at h<;>rename_i h1
 ·simp only[if_pos h1]
  cases hd:decide ((u7 b f:Int)<(b.length:Int))with
  |false=>grind
  |true=>
   have hlt:=of_decide_eq_true hd
   have hr:u7 c f=u7 b f:=by
    unfold u7
    exact JC hp _ _ _ AT AT (by grind [u7])
   rw[hr,hp.part AT,decide_eq_true AT]
   rfl
 simp only[if_neg h1]
 split at h<;>rename_i h2
 ·grind
 simp only[if_neg h2]
 split at h<;>rename_i h3
 ·grind
 simp only[if_neg h3]
 split at h<;>rename_i h4
 ·simp only[if_pos h4]
  cases hy:b[f+1]? with
  |none=>rw[hy]at h;exact absurd rfl h
  |some y=>
   rw[hy]at h
   rw[hp.2 _ _ hy]
   simp only at h⊢
   split at h<;>rename_i h5
   ·grind
   ·simp only[if_neg h5];grind [Px,Qe]
 simp only[if_neg h4]
 split at h<;>rename_i h5
 ·simp only[if_pos h5]
  cases hy:b[f+1]? with
  |none=>grind
  |some y=>rw[hp.2 _ _ hy]
 simp only[if_neg h5]
 split at h<;>rename_i h6
 ·simp only[if_pos h6]
  grind [Qi,Qe]
 simp only[if_neg h6]
 split at h<;>rename_i h7
 ·simp only[if_pos h7]
  cases hd:decide ((u7 b (f+1):Int)<(b.length:Int))with
  |false=>grind
  |true=>
   have hlt:=of_decide_eq_true hd
   have hr:u7 c (f+1)=u7 b (f+1):=by
    unfold u7
    exact JC hp _ _ _ AT AT (by grind [u7])
   rw[hr,hp.part AT,decide_eq_true AT]
   rfl
 grind
theorem uX(hp:EZ b c){k:Nat}(hk:k<=b.length)(h:(iQ b false k).2≠6):iQ c l k=iQ b false k:=by
 unfold iQ at h⊢
 cases hx:b[F5 b k]? with
 |none=>grind
 |some x=>
  have hs:F5 c k=F5 b k:=by
   refine P6 hp _ _ _ _ BY BY ?_
   show b[F5 b k]? ≠none
   rw[hx];simp
  rw[hs,hp.2 _ _ hx]
  grind [Zn,dy]
end
end Go.AB
end
section
set_option maxRecDepth 4000
namespace Go.AB
open Go
open Go.Proofs.Tryz (prog)
attribute[-go_sem] Nat.add_zero mi cy bX cP bD bV
section
variable{s0 s:ae}{b:List UInt8}{most:Int}{B:Nat}{z:ZS}{Q:List AV->ae->Prop}
end
end Go.AB
end
section
set_option maxRecDepth 4000
namespace Go.AB
open Go
open Go.Proofs.Tryz (prog)
attribute[-go_sem] bX cP bD bV Nat.add_zero mi cy
end Go.AB
end
section
namespace Go.AB
open Go
section
variable{b:List UInt8}{last:Bool}
variable(b last)
def yM(k:Nat):Int×Int×Int:=if(iQ b last k).2 !=0 then(0,0,(iQ b last k).2)else if(iQ b last k).1.Kind==0 then(0,0,10)else if !(((iQ b last k).1.Kind==1)&&((iQ b last k).1.V.Kind==2))then(0,0,11)else((iQ b last k).1.V.N,(iQ b last k).1.To,0)
def ns(k:Nat)(w:List UInt8):Int×Int:=if(iQ b last k).2 !=0 then(0,(iQ b last k).2)else if(iQ b last k).1.Kind==0 then(0,10)else if !(((iQ b last k).1.Kind==6)&&((iQ b last k).1.S.b==w))then(0,11)else((iQ b last k).1.To,0)
variable{b last}
def I3(hb:b.length<1048576)(k:Nat)(hk:k<=b.length):jb b (k:Int) last=some (yM b last k):=by
 unfold jb ni yM
 rw[A5 hb k hk]
 generalize iQ b last k=q
 obtain⟨t,e⟩:=q
 by_cases he:(e !=0)=true
 ·simp_all
 ·rw[if_neg he]
  by_cases h0:(t.Kind==0)=true
  ·simp_all
  ·rw[if_neg h0]
   by_cases hw:(!((t.Kind==1)&&(t.V.Kind==2)))=true
   ·rw[if_pos hw];exact ah (an he (an h0 (ah rfl (aM hw rfl)))) rfl
   ·rw[if_neg hw];exact ah (an he (an h0 (ah rfl (an hw rfl)))) rfl
def UF(hb:b.length<1048576)(k:Nat)(hk:k<=b.length)(w:List UInt8):mC b (k:Int) last ⟨w⟩=some (ns b last k w):=by
 unfold mC mD ns
 rw[A5 hb k hk]
 generalize iQ b last k=q
 obtain⟨t,e⟩:=q
 by_cases he:(e !=0)=true
 ·simp_all
 ·rw[if_neg he]
  by_cases h0:(t.Kind==0)=true
  ·simp_all
  ·rw[if_neg h0]
   by_cases hw:(!((t.Kind==6)&&(t.S.b==w)))=true
   ·rw[if_pos hw];exact ah (an he (an h0 (ah rfl (aM hw rfl)))) rfl
   ·rw[if_neg hw];exact ah (an he (an h0 (ah rfl (an hw rfl)))) rfl
end
end Go.AB
end
