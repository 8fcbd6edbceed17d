/- A part. -/
import Derived.Test.YtgecakgfnjkkbaaGreatTt21
set_option linter.defProp false
set_option linter.unusedSimpArgs false
set_option linter.unusedVariables false
section
namespace Go.AB
open Go
section
variable(b:List UInt8)(last:Bool)
def yN:Nat->Int->Nat->Int×Nat×Bool
 |0,n,j=>(n,j,false)
 |k+1,n,j=>match b[j]? with
  |none=>(n,j,true)
  |some d=>if(decide ((d.toNat:Int)<48))||(decide ((d.toNat:Int)>55))then(n,j,false)else yN k (8*n+((d.toNat:Int) -48)) (j+1)
def MX(j:Nat):(List UInt8×Nat)⊕Int:=match b[j]? with
 |none=>.inr (zt last)
 |some c=>
  if(c.toNat:Int)==110 then .inl ([10],j+1)else if(c.toNat:Int)==114 then .inl ([13],j+1)else if(c.toNat:Int)==116 then .inl ([9],j+1)
  else if(c.toNat:Int)==98 then .inl ([8],j+1)else if(c.toNat:Int)==102 then .inl ([12],j+1)else if(c.toNat:Int)==10 then .inl ([],j+1)
  else if(c.toNat:Int)==13 then(match b[j+1]? with
   |none=>if last then .inl ([],j+1)else .inr 6
   |some d=>if(d.toNat:Int)==10 then .inl ([],j+2)else .inl ([],j+1))
  else if(decide ((c.toNat:Int)<48))||(decide ((c.toNat:Int)>55))then .inl ([c],j+1)
  else if(yN b 2 ((c.toNat:Int) -48) (j+1)).2.2&&!last then .inr 6 else .inl ([ju (yN b 2 ((c.toNat:Int) -48) (j+1)).1],(yN b 2 ((c.toNat:Int) -48) (j+1)).2.1)
def zf:Nat->Int->List UInt8->Nat->(List UInt8×Nat)⊕Int
 |0,_,_,_=>.inr (zt last)
 |f+1,deep,out,j=>match b[j]? with
  |none=>.inr (zt last)
  |some c=>
   if(c.toNat:Int)==92 then(match MX b last (j+1)with
    |.inr e=>.inr e
    |.inl (x,j')=>zf f deep (out++x) j')
   else if(c.toNat:Int)==13 then(match b[j+1]? with
    |none=>if last then zf f deep (out++[10]) (j+1)else .inr 6
    |some d=>if(d.toNat:Int)==10 then zf f deep (out++[10]) (j+2)else zf f deep (out++[10]) (j+1))
   else if(c.toNat:Int)==40 then zf f (deep+1) (out++[c]) (j+1)
   else if(c.toNat:Int)==41 then(if deep -1==0 then .inl (out,j+1)else zf f (deep -1) (out++[c]) (j+1))
   else zf f deep (out++[c]) (j+1)
variable{b last}
def Uo:∀(k:Nat)(n:Int)(j:Nat),j<=b.length->j<=(yN b k n j).2.1/\(yN b k n j).2.1<=b.length/\(yN b k n j).2.1<=j+k/\((yN b k n j).2.2=true->(yN b k n j).2.1=b.length/\(yN b k n j).2.1<j+k)
 |0,n,j,h=>⟨Nat.le_refl _,h,Nat.le_refl _,fun e=>f_⟩
 |k+1,n,j,h=>by
  rw[yN]
  cases hx:b[j]? with
  |none=>grind
  |some d=>
   have hl:=(dH hx).1
   simp
   split
   ·grind
   ·have:=Uo k (8*n+(d.toNat -48)) (j+1) AT
    refine⟨AT,AT,AT,fun e=>?_⟩
    have:=this.2.2.2 e
    omega
def okE(j n:Nat)(last:Bool):(List UInt8×Nat)⊕Int->Prop
 |.inl r=>j<r.2/\r.2<=n/\r.1.length<=1
 |.inr e=>e=zt last
def nR{j n:Nat}{last:Bool}{c:Prop}[Decidable c]{x y:(List UInt8×Nat)⊕Int}(h1:okE j n last x)(h2:¬c->okE j n last y):okE j n last (if c then x else y):=A_
def OT(j:Nat)(h:j<=b.length):okE j b.length last (MX b last j):=by
 unfold MX
 cases hx:b[j]? with
 |none=>exact rfl
 |some c=>
  have hl:=(dH hx).1
  have k1:∀x,x.length<=1->okE j b.length last (.inl (x,j+1)):=fun x hx=>⟨BY,A_,hx⟩
  refine nR (k1 _ BY) fun _=>nR (k1 _ BY) fun _=>nR (k1 _ BY) fun _=>nR (k1 _ BY) fun _=>nR (k1 _ BY) fun _=>nR (k1 _ BY) fun _=>nR ?_ fun _=>nR (k1 _ BY) fun _=>?_
  ·cases hy:b[j+1]? with
   |none=>
    cases last with
    |true=>grind
    |false=>exact rfl
   |some d=>exact nR ⟨BY,A_,Nat.zero_le _⟩ fun _=>k1 _ BY
  ·have:=Uo (b:=b) 2 (c.toNat -48) (j+1) AT
   by_cases h1:((yN b 2 (c.toNat -48) (j+1)).2.2&&!last)=true
   ·rw[if_pos h1]
    have:last=false:=A_
    rw[this];exact rfl
   ·rw[if_neg h1]
    exact⟨A_,this.2.1,BY⟩
def Xd(c:UInt8):(decide (Lib.indexByte [110,114,116,98,102] c>=0))=(((c.toNat:Int)==110)||(((c.toNat:Int)==114)||(((c.toNat:Int)==116)||(((c.toNat:Int)==98)||((c.toNat:Int)==102))))):=of_decide_eq_true (nr (fun c=>decide ((decide (Lib.indexByte [110,114,116,98,102] c>=0))=(((c.toNat:Int)==110)||(((c.toNat:Int)==114)||(((c.toNat:Int)==116)||(((c.toNat:Int)==98)||((c.toNat:Int)==102))))))) B_ c)
def abN(hb:b.length<1048576){u:Bool}{o:List UInt8}(ho:o.length<1048576)(c:UInt8)(hc:48<=(c.toNat:Int)/\(c.toNat:Int)<=55)(j:Nat)(hj:j<=b.length):
 ∃x,gh ⟨⟨u,true,⟨o⟩⟩,b,(j:Int),last⟩ c=some x/\(if(yN b 2 ((c.toNat:Int) -48) j).2.2&&!last then x.1=false/\x.2.aU=last else x=(true,⟨⟨true,true,⟨o++[ju (yN b 2 ((c.toNat:Int) -48) j).1]⟩⟩,b,((yN b 2 ((c.toNat:Int) -48) j).2.1:Int),last⟩)):=by
 have cg:room=140737488355328:=rfl
 have e0:aC (((ju ((c.toNat:Int) -48)).toNat:Int))=(c.toNat:Int) -48:=by
  have:=of_decide_eq_true (nr (fun c=>decide (48<=(c.toNat:Int)->aC (((ju ((c.toNat:Int) -48)).toNat:Int))=(c.toNat:Int) -48)) B_ c)
  exact this hc.1
 have dig:∀d:UInt8,¬(((decide ((d.toNat:Int)<48))||(decide ((d.toNat:Int)>55)))=true)->48<=(d.toNat:Int)/\(d.toNat:Int)<=55/\aC (((ju ((d.toNat:Int) -48)).toNat:Int))=(d.toNat:Int) -48:=fun d h=>by
  have h1:48<=(d.toNat:Int)/\(d.toNat:Int)<=55:=Xb4
  exact⟨h1.1,h1.2,of_decide_eq_true (nr (fun c=>decide (48<=(c.toNat:Int)->aC (((ju ((c.toNat:Int) -48)).toNat:Int))=(c.toNat:Int) -48)) B_ d) h1.1⟩
 generalize hT:yN b 2 ((c.toNat:Int) -48) j=T
 unfold gh
 rw[e0]
 refine oH (fun(r:(Int×aq)⊕(Bool×aq))=>(r=.inl (T.1,⟨⟨u,true,⟨o⟩⟩,b,(T.2.1:Int),last⟩)/\T.2.2=false)\/(T.2.2=true/\(if last then r=.inr (true,⟨⟨true,true,⟨o++[ju T.1]⟩⟩,b,(T.2.1:Int),last⟩)else∃x,r=.inr (false,x)/\x.aU=last))) (x4 (fun(r:(Int×aq)⊕(Bool×aq))=>(r=.inl (T.1,⟨⟨u,true,⟨o⟩⟩,b,(T.2.1:Int),last⟩)/\T.2.2=false)\/(T.2.2=true/\(if last then r=.inr (true,⟨⟨true,true,⟨o++[ju T.1]⟩⟩,b,(T.2.1:Int),last⟩)else∃x,r=.inr (false,x)/\x.aU=last))) (dw (fun(s:Int×Int×aq)=>∃(i k:Nat),s.2.2=⟨⟨u,true,⟨o⟩⟩,b,(i:Int),last⟩/\i<=b.length/\k<=2/\s.2.1=2 -(k:Int)/\0<=s.1/\s.1<=511/\s.1<8^(3 -k)/\yN b k s.1 i=T) (fun s=>(2 -s.2.1).toNat)
  (fun(r:(Int×aq)⊕(Bool×aq))=>(r=.inl (T.1,⟨⟨u,true,⟨o⟩⟩,b,(T.2.1:Int),last⟩)/\T.2.2=false)\/(T.2.2=true/\(if last then r=.inr (true,⟨⟨true,true,⟨o++[ju T.1]⟩⟩,b,(T.2.1:Int),last⟩)else∃x,r=.inr (false,x)/\x.aU=last)))
  ⟨j,2,rfl,hj,Nat.le_refl _,rfl,A_,A_,A_,hT⟩ A_ (by
    rintro⟨n,q,o7⟩ ⟨i,k,e,hi,hk,eq,n0,n1,n2,hs⟩
    have e:o7=⟨⟨u,true,⟨o⟩⟩,b,(i:Int),last⟩:=e
    have eq:q=2 -(k:Int):=eq
    subst e;subst eq
    have n0:0<=n:=n0
    have n1:n<=511:=n1
    have hs:yN b k n i=T:=hs
    cases k with
    |zero=>
     rw[yN]at hs
     grind
    |succ k=>
     rw[yN]at hs
     have hlt:(decide (2 -((k+1:Nat):Int)<2))=true:=C3
     cases hx:b[i]? with
     |none=>
      rw[hx]at hs
      subst hs
      cases last with
      |true=>exact⟨_,aM hlt (ah (sj hx) (aM rfl (aM rfl (ah (Eh _ AT) rfl)))),.inr ⟨rfl,A_⟩⟩
      |false=>exact⟨_,aM hlt (ah (sj hx) (aM rfl (al nF rfl))),.inr ⟨rfl,A_⟩⟩
     |some d=>
      obtain⟨hl,_⟩:=dH hx
      rw[hx]at hs
      simp only at hs
      by_cases hd:((decide ((d.toNat:Int)<48))||(decide ((d.toNat:Int)>55)))=true
      ·rw[if_pos hd]at hs
       subst hs
       exact⟨_,aM hlt (ah (fx hx) (al nT (aM hd rfl))),.inl ⟨rfl,rfl⟩⟩
      ·rw[if_neg hd]at hs
       obtain⟨d1,d2,d3⟩:=dig d hd
       have hw:=zb (n:=i) AT
       have n2:n<8^(3 -(k+1)):=n2
       have hp:n<64/\8*n+((d.toNat:Int) -48)<8^(3 -k):=by
        rcases(show k=0\/k=1 by omega)with rfl|rfl
        ·grind
        ·grind
       have w8:aC ((aC (8*n))+(aC (((ju ((d.toNat:Int) -48)).toNat:Int))))=8*n+((d.toNat:Int) -48):=by rw[d3,an (n:=8*n) AT AT,an AT AT]
       have wk:aC (2 -((k+1:Nat):Int)+1)=2 -(k:Int):=E_
       refine⟨_,aM hlt (ah (fx hx) (al nT (al hd rfl))),⟨i+1,k,?_,AT,AT,wk,A_,A_,A_,A_⟩,?_⟩
       ·grind
       grind)) ?_) ?_
 ·rintro z (⟨rfl,h2⟩|⟨h2,h3⟩)
  ·simp_all
  ·cases last with
   |true=>simp_all
   |false=>
    rw[if_neg nF]at h3
    obtain⟨x,rfl,hx⟩:=h3
    simp_all
 ·rintro z (⟨rfl,h2⟩|⟨h2,h3⟩)
  ·refine⟨_,ah (Eh _ AT) rfl,?_⟩
   grind
  ·cases last with
   |true=>simp_all
   |false=>
    rw[if_neg nF]at h3
    obtain⟨x,rfl,hx⟩:=h3
    simp_all
end
section
variable{b:List UInt8}{last:Bool}
def ZR(u:Bool)(o:List UInt8)(hb:b.length<1048576)(c:UInt8)(hc:((c.toNat:Int)==13)=true)(j:Nat)(hj:j<=b.length):
 dD ⟨⟨u,true,⟨o⟩⟩,b,(j:Int),last⟩ c=some (match b[j]? with
  |none=>(last,⟨⟨u,true,⟨o⟩⟩,b,(j:Int),last⟩)
  |some d=>(true,⟨⟨u,true,⟨o⟩⟩,b,if(d.toNat:Int)==10 then((j+1:Nat):Int)else(j:Int),last⟩)):=by
 refine al A_ ?_
 cases hx:b[j]? with
 |none=>exact ah (sj hx) (e7 (al BY rfl) rfl)
 |some d=>
  by_cases hd:((d.toNat:Int)==10)=true
  ·refine ah (fx hx) (e7 (aM A_ rfl) ?_)
   grind [aC,zb]
  ·simp[hd]
   exact ah (fx hx) (e7 (al A_ rfl) rfl)
def K7(hb:b.length<1048576){u:Bool}{o:List UInt8}(ho:o.length<1048576)(j:Nat){c y:UInt8}{i:Int}(hx:b[j]? =some c)(e:Lib.indexByte [110,114,116,98,102] c=i)(h0:0<=i/\i<5)(hy:ix ([10,13,9,8,12]:List UInt8) i=y):
 dy ⟨⟨u,true,⟨o⟩⟩,b,(j:Int),last⟩=some (true,⟨⟨true,true,⟨o++[y]⟩⟩,b,((j+1:Nat):Int),last⟩):=by
 have cg:room=140737488355328:=rfl
 refine ah (fx hx) (al nT (ah (show ed _ c=some i by rw[<-e];rfl) (aM A_ (aA h0 (ah (Eh _ AT) ?_)))))
 grind [ix,aC,zb]
def Mb{c:UInt8}{n:Nat}(hn:n<256)(h:((c.toNat:Int)==(n:Int))=true):c=UInt8.ofNat n:=by
 have h:=KT
 have h:c.toNat=n:=AT
 rw[<-h];simp
def leR(b:List UInt8)(last:Bool)(o:List UInt8)(r:(List UInt8×Nat)⊕Int)(x:Bool×aq):Prop:=match r with
 |.inr _=>x.1=false/\x.2.aU=last
 |.inl r=>∃u',x=(true,⟨⟨u',true,⟨o++r.1⟩⟩,b,(r.2:Int),last⟩)
def Xt(hb:b.length<1048576){u:Bool}{o:List UInt8}(ho:o.length<1048576)(j:Nat)(hj:j<=b.length):
 ∃x,dy ⟨⟨u,true,⟨o⟩⟩,b,(j:Int),last⟩=some x/\leR b last o (MX b last j) x:=by
 have cg:room=140737488355328:=rfl
 unfold MX
 cases hx:b[j]? with
 |none=>
  unfold dy
  exact⟨_,ah (sj hx) (aM rfl rfl),rfl,rfl⟩
 |some c=>
  obtain⟨hl,_⟩:=dH hx
  have hw:=zb (n:=j) AT
  have EK:=Xd c
  simp only
  by_cases n1:((c.toNat:Int)==110)=true
  ·rw[if_pos n1]
   obtain rfl:c=110:=Mb (n:=110) By n1
   exact⟨_,K7 hb ho j hx (i:=0) rfl By rfl,true,rfl⟩
  rw[if_neg n1]
  by_cases n2:((c.toNat:Int)==114)=true
  ·rw[if_pos n2]
   obtain rfl:c=114:=Mb (n:=114) By n2
   exact⟨_,K7 hb ho j hx (i:=1) rfl By rfl,true,rfl⟩
  rw[if_neg n2]
  by_cases n3:((c.toNat:Int)==116)=true
  ·rw[if_pos n3]
   obtain rfl:c=116:=Mb (n:=116) By n3
   exact⟨_,K7 hb ho j hx (i:=2) rfl By rfl,true,rfl⟩
  rw[if_neg n3]
  by_cases n4:((c.toNat:Int)==98)=true
  ·rw[if_pos n4]
   obtain rfl:c=98:=Mb (n:=98) By n4
   exact⟨_,K7 hb ho j hx (i:=3) rfl By rfl,true,rfl⟩
  rw[if_neg n4]
  by_cases n5:((c.toNat:Int)==102)=true
  ·rw[if_pos n5]
   obtain rfl:c=102:=Mb (n:=102) By n5
   exact⟨_,K7 hb ho j hx (i:=4) rfl By rfl,true,rfl⟩
  rw[if_neg n5]
  have hi:¬(decide (Lib.indexByte [110,114,116,98,102] c>=0))=true:=by
   rw[EK]
   simp only[Bool.or_eq_true,not_or]
   exact⟨n1,n2,n3,n4,n5⟩
  have start:∀{r:Option (Bool×aq)},(if((decide ((c.toNat:Int)>=48))&&(decide ((c.toNat:Int)<=55)))=true then aQ (gh ⟨⟨u,true,⟨o⟩⟩,b,((j+1:Nat):Int),last⟩ c) fun r4=>some (r4.1,r4.2)
   else if(((c.toNat:Int)==10)||((c.toNat:Int)==13))=true then aQ (dD ⟨⟨u,true,⟨o⟩⟩,b,((j+1:Nat):Int),last⟩ c) fun r5=>some (r5.1,r5.2)
   else aQ (aF ⟨u,true,⟨o⟩⟩ c) fun r6=>some (true,(⟨r6.2,b,((j+1:Nat):Int),last⟩:aq)))=r->dy ⟨⟨u,true,⟨o⟩⟩,b,(j:Int),last⟩=r:=fun h=>by
   unfold dy
   refine ah (fx hx) (al nT (ah (show ed _ c=some _ from rfl) (al hi ?_)))
   grind
  by_cases n10:((c.toNat:Int)==10)=true
  ·rw[if_pos n10]
   have hc:(c.toNat:Int)=10:=by simpa using n10
   refine⟨_,start (al A_ (aM (by rw[n10];rfl) (ah (aM A_ rfl) rfl))),u,?_⟩
   grind
  rw[if_neg n10]
  by_cases n13:((c.toNat:Int)==13)=true
  ·rw[if_pos n13]
   have hc:(c.toNat:Int)=13:=by simpa using n13
   refine⟨_,start (al A_ (aM A_ (ah (ZR u o hb c n13 (j+1) AT) rfl))),?_⟩
   cases hy:b[j+1]? with
   |none=>
    cases last with
    |true=>exact⟨u,A_⟩
    |false=>exact⟨rfl,rfl⟩
   |some d=>
    simp only
    by_cases hd:((d.toNat:Int)==10)=true
    ·rw[if_pos hd,if_pos hd]
     exact⟨u,A_⟩
    ·rw[if_neg hd,if_neg hd]
     exact⟨u,A_⟩
  rw[if_neg n13]
  by_cases no:((decide ((c.toNat:Int)<48))||(decide ((c.toNat:Int)>55)))=true
  ·rw[if_pos no]
   exact⟨_,start (al A_ (al A_ (ah (Eh _ AT) rfl))),true,rfl⟩
  ·rw[if_neg no]
   have hc:48<=(c.toNat:Int)/\(c.toNat:Int)<=55:=by simp at no;omega
   obtain⟨x,h1,h2⟩:=abN (last:=last) hb (u:=u) ho c hc (j+1) AT
   refine⟨x,start (aM C3 (ah h1 rfl)),?_⟩
   by_cases h:((yN b 2 ((c.toNat:Int) -48) (j+1)).2.2&&!last)=true
   ·rw[if_pos h]at h2⊢
    exact h2
   ·rw[if_neg h]at h2⊢
    exact⟨true,h2⟩
def agj(hb:b.length<1048576)(u:Bool)(k:Nat)(hk:k<=b.length):∃x,gT ⟨⟨u,true,⟨[]⟩⟩,b,(k:Int),last⟩=some x/\RB (zf b last (b.length+1) 1 [] k) x:=by
 have cg:room=140737488355328:=rfl
 generalize hT:zf b last (b.length+1) 1 [] k=T
 unfold gT
 refine dw (fun(s:Int×aq)=>∃(j f:Nat)(u:Bool)(o:List UInt8),s.2=⟨⟨u,true,⟨o⟩⟩,b,(j:Int),last⟩/\j<=b.length/\b.length -j+1<=f/\o.length<=j/\1<=s.1/\s.1<=(j:Int)+1/\zf b last f s.1 o j=T) (fun s=>b.length -s.2.at_.toNat) (RB T) ⟨k,b.length+1,u,[],rfl,hk,AT,Nat.zero_le _,A_,A_,hT⟩ A_ ?_
 rintro⟨deep,o2⟩ ⟨j,f,u,o,e,hj,hf,ho,d1,d2,hs⟩
 have e:o2=⟨⟨u,true,⟨o⟩⟩,b,(j:Int),last⟩:=e
 subst e
 have d1:1<=deep:=d1
 have d2:deep<=(j:Int)+1:=d2
 have hs:zf b last f deep o j=T:=hs
 obtain⟨f,rfl⟩:∃g,f=g+1:=⟨f -1,AT⟩
 rw[zf]at hs
 cases hx:b[j]? with
 |none=>
  rw[hx]at hs
  refine⟨_,ah (sj hx) (aM rfl (ah (Pj ..) rfl)),?_⟩
  show RB T _
  rw[<-hs]
  exact rfl
 |some c=>
  obtain⟨hl,hi⟩:=dH hx
  rw[hx]at hs
  simp only at hs
  have hw:=zb (n:=j) AT
  have agu:∀j':Nat,j<j'->b.length -((j':Nat):Int).toNat<b.length -(j:Int).toNat:=fun j' h=>AT
  have put:∀(d:Int)(c:UInt8)(j':Nat),1<=d->d<=(j':Int)+1->j<j'->j'<=b.length->zf b last f d (o++[c]) j'=T->
   ∃t,(if(d==0)=true then aQ (bV ⟨u,true,⟨o⟩⟩) fun r22=>some (Sum.inr ((⟨4,0,r22.1,[]⟩:aa),(0:Int),(⟨r22.2,b,((j':Nat):Int),last⟩:aq)))else aQ (aF ⟨u,true,⟨o⟩⟩ c) fun r23=>some (Sum.inl (d,(⟨r23.2,b,((j':Nat):Int),last⟩:aq))))=some (Sum.inl t)/\
    (∃(j f:Nat)(u:Bool)(o:List UInt8),t.2=⟨⟨u,true,⟨o⟩⟩,b,(j:Int),last⟩/\j<=b.length/\b.length -j+1<=f/\o.length<=j/\1<=t.1/\t.1<=(j:Int)+1/\zf b last f t.1 o j=T)/\b.length -t.2.at_.toNat<b.length -(j:Int).toNat:=fun d c j' h1 h2 h3 h4 h5=>by
   have hd:¬(d==0)=true:=C3
   refine⟨_,al hd (ah (Eh _ AT) rfl),⟨j',f,true,o++[c],rfl,h4,AT,C3,h1,h2,h5⟩,agu j' h3⟩
  by_cases n92:((c.toNat:Int)==92)=true
  ·rw[if_pos n92]at hs
   obtain⟨x,x1,x2⟩:=Xt (last:=last) hb (u:=u) (o:=o) AT (j+1) AT
   have hp:=OT (b:=b) (last:=last) (j+1) AT
   cases hes:MX b last (j+1)with
   |inr e=>
    rw[hes]at hs x2 hp
    simp only at hs
    obtain⟨y1,y2⟩:=x2
    have hp:e=zt last:=hp
    have ho2:cL x.2=some (zt last):=by rw[<-y2];obtain⟨_,⟨_,_,_,l⟩⟩:=x;cases l<;>rfl
    refine⟨_,ah (fx hx) (al nT (dT (aM n92 (ah A_ (aM (by rw[y1];rfl) (ah ho2 rfl)))) rfl)),?_⟩
    show RB T _
    rw[<-hs,hp]
    exact rfl
   |inl r=>
    rw[hes]at hs x2 hp
    simp only at hs
    obtain⟨u',rfl⟩:=x2
    obtain⟨p1,p2,p3⟩:=hp
    refine⟨_,ah (fx hx) (al nT (dT (aM n92 (ah (by show dy ⟨_,b,aC ((j:Int)+1),last⟩=_;rw[hw];exact x1) (al nT rfl))) rfl)),⟨r.2,f,u',o++r.1,rfl,p2,AT,C3,d1,AT,hs⟩,agu r.2 AT⟩
  ·rw[if_neg n92]at hs
   by_cases n13:((c.toNat:Int)==13)=true
   ·rw[if_pos n13]at hs
    have yk:=ZR (last:=last) u o hb c n13 (j+1) AT
    cases hy:b[j+1]? with
    |none=>
     rw[hy]at hs yk
     cases last with
     |false=>
      refine⟨_,ah (fx hx) (al nT (dT (al n92 (aM n13 (ah Xb5 (aM rfl (ah (Pj ..) rfl))))) rfl)),?_⟩
      show RB T _
      rw[<-hs]
      exact rfl
     |true=>
      obtain⟨t,q1,q2,q3⟩:=put deep 10 (j+1) d1 AT AT AT hs
      exact⟨.inl t,ah (fx hx) (al nT (dT (al n92 (aM n13 (ah Xb5 (al nT rfl)))) q1)),q2,q3⟩
    |some d=>
     rw[hy]at hs yk
     simp only at hs yk
     have hl2:=(dH hy).1
     by_cases hd:((d.toNat:Int)==10)=true
     ·rw[if_pos hd]at hs yk
      obtain⟨t,q1,q2,q3⟩:=put deep 10 (j+2) d1 AT AT AT hs
      exact⟨.inl t,ah (fx hx) (al nT (dT (al n92 (aM n13 (ah Xb5 (al nT rfl)))) q1)),q2,q3⟩
     ·rw[if_neg hd]at hs yk
      obtain⟨t,q1,q2,q3⟩:=put deep 10 (j+1) d1 AT AT AT hs
      exact⟨.inl t,ah (fx hx) (al nT (dT (al n92 (aM n13 (ah Xb5 (al nT rfl)))) q1)),q2,q3⟩
   ·rw[if_neg n13]at hs
    by_cases n40:((c.toNat:Int)==40)=true
    ·rw[if_pos n40]at hs
     have wd:aC (deep+1)=deep+1:=an AT AT
     obtain⟨t,q1,q2,q3⟩:=put (deep+1) c (j+1) AT AT AT AT hs
     rw[<-hw,<-wd]at q1
     exact⟨.inl t,ah (fx hx) (al nT (dT (al n92 (al n13 (aM n40 rfl))) q1)),q2,q3⟩
    ·rw[if_neg n40]at hs
     by_cases n41:((c.toNat:Int)==41)=true
     ·rw[if_pos n41]at hs
      have wd:aC (deep -1)=deep -1:=an AT AT
      by_cases h0:(deep -1==0)=true
      ·rw[if_pos h0]at hs
       refine⟨_,ah (fx hx) (al nT (dT (al n92 (al n13 (al n40 (aM n41 rfl)))) (aM A_ (ah (aaS AT) rfl)))),?_⟩
       show RB T _
       rw[<-hs]
       exact⟨rfl,rfl,hw⟩
      ·rw[if_neg h0]at hs
       obtain⟨t,q1,q2,q3⟩:=put (deep -1) c (j+1) A_ AT AT AT hs
       rw[<-hw,<-wd]at q1
       exact⟨.inl t,ah (fx hx) (al nT (dT (al n92 (al n13 (al n40 (aM n41 rfl)))) q1)),q2,q3⟩
     ·rw[if_neg n41]at hs
      obtain⟨t,q1,q2,q3⟩:=put deep c (j+1) d1 AT AT AT hs
      rw[<-hw]at q1
      exact⟨.inl t,ah (fx hx) (al nT (dT (al n92 (al n13 (al n40 (al n41 rfl)))) q1)),q2,q3⟩
end
section
variable{b:List UInt8}{last:Bool}
end
section
variable(w:List UInt8)
def RD:Nat->List UInt8->Nat->List UInt8⊕Int
 |0,out,_=>.inl out
 |f+1,out,i=>match w[i]? with
  |none=>.inl out
  |some c=>if(c.toNat:Int)==35 then(match w[i+2]? with
    |none=>.inr 17
    |some y=>match w[i+1]? with
     |none=>.inr 17
     |some x=>if decide (Ii x<0)||decide (Ii y<0)then .inr 17 else RD f (out++[ju (aC (aC (16*Ii x)+Ii y))]) (i+3))
   else RD f (out++[c]) (i+1)
def naF(o:List UInt8):aa×Int:=if decide ((o.length:Int)>127)||decide (Lib.indexByte o 0>=0)then(⟨0,0,⟨[]⟩,[]⟩,17)else(⟨5,0,⟨o⟩,[]⟩,0)
def RC:aa×Int:=match RD w (w.length+1) [] 0 with
 |.inr e=>(⟨0,0,⟨[]⟩,[]⟩,e)
 |.inl o=>naF o
variable{w}
def agh(hb:w.length<1048576):oS ⟨w⟩=some (RC w):=by
 have cg:room=140737488355328:=rfl
 have key:∃x,oS ⟨w⟩=some x/\x=RC w:=by
  unfold oS
  unfold RC
  generalize hT:RD w (w.length+1) [] 0=T
  refine oH (fun z=>z=T) (x4 (fun z=>z=T) (dw (fun(s:List UInt8×Int)=>∃(j f:Nat),s.2=(j:Int)/\j<=w.length/\w.length -j+1<=f/\s.1.length<=j/\RD w f s.1 j=T) (fun s=>w.length -s.2.toNat) _
   ⟨0,w.length+1,rfl,Nat.zero_le _,AT,Nat.zero_le _,hT⟩ A_ ?_) ?_) ?_
  ·rintro⟨o,a⟩ ⟨j,f,e,hj,hf,ho,hs⟩
   have e:a=(j:Int):=e
   subst e
   have ho:o.length<=j:=ho
   have hs:RD w f o j=T:=hs
   obtain⟨f,rfl⟩:∃g,f=g+1:=⟨f -1,AT⟩
   rw[RD]at hs
   cases hx:w[j]? with
   |none=>
    have:=rQ hx
    rw[hx]at hs
    exact⟨_,al C3 rfl,hs⟩
   |some c=>
    obtain⟨hl,hi⟩:=dH hx
    rw[hx]at hs
    simp only at hs
    have w1:aC ((j:Int)+1)=((j+1:Nat):Int):=zb AT
    have w2:aC ((j:Int)+2)=((j+2:Nat):Int):=h_
    have w3:aC (((j+2:Nat):Int)+1)=((j+3:Nat):Int):=zb AT
    have gd:(decide ((j:Int)<(w.length:Int)))=true:=C3
    have np:0<=(j:Int)/\(j:Int)<w.length:=AT
    simp only[hi,w1,w2]
    by_cases n35:((c.toNat:Int)==35)=true
    ·rw[if_pos n35]at hs
     cases hy:w[j+2]? with
     |none=>
      have hl2:=rQ hy
      rw[hy]at hs
      have dg:decide (((j+2:Nat):Int)>=(w.length:Int))=true:=C3
      simp_all
     |some y=>
      obtain⟨hl2,hi2⟩:=dH hy
      rw[hy]at hs
      obtain⟨x,hz⟩:∃x,w[j+1]? =some x:=⟨w[j+1],List.getElem?_eq_getElem AT⟩
      obtain⟨hl3,hi3⟩:=dH hz
      rw[hz]at hs
      simp only at hs
      have dg:decide (((j+2:Nat):Int)>=(w.length:Int))=false:=C3
      simp only[hi2,hi3,dg,Bool.false_or,Bool.not_false]
      by_cases hxn:Ii x<0
      ·rw[if_pos A_]at hs
       exact⟨_,aM gd (aA np (dT (aM n35 (aA AT (ah (zM x) (aA AT (ah (whn A_) (aM C3 rfl)))))) rfl)),hs⟩
      ·have dx:decide (Ii x<0)=false:=by simpa using hxn
       by_cases hyn:Ii y<0
       ·rw[if_pos A_]at hs
        exact⟨_,aM gd (aA np (dT (aM n35 (aA AT (ah (zM x) (aA AT (ah (by rw[dx];exact zM y) (aM A_ rfl)))))) rfl)),hs⟩
       ·rw[if_neg C3]at hs
        refine⟨_,aM gd (aA np (dT (aM n35 (aA AT (ah (zM x) (aA AT (ah (by rw[dx];exact zM y) (al C3 (aA AT (ah (zM x) (aA AT (ah (zM y) rfl)))))))))) (aA C3 rfl))),⟨j+3,f,w3,AT,AT,A_,hs⟩,?_⟩
        grind
    ·rw[if_neg n35]at hs
     refine⟨_,aM gd (aA np (dT (al n35 rfl) (aA C3 rfl))),⟨j+1,f,w1,AT,AT,A_,hs⟩,?_⟩
     grind
  ·rintro z rfl
   cases z with
   |inl o=>simp_all
   |inr e=>simp_all
  ·rintro z rfl
   cases z with
   |inr e=>simp_all
   |inl o=>
    show∃x,(aQ (jA (!(decide ((o.length:Int)>127))) 0 (fE o 0)) fun r22=>_)=some x/\x=naF o
    unfold naF
    cases hd:decide ((o.length:Int)>127)with
    |true=>simp_all
    |false=>
     rw[Bool.not_false,Bool.false_or]
     by_cases h:(decide (Lib.indexByte o 0>=0))=true
     ·exact⟨_,ah (show jA true 0 (fE o 0)=some _ from rfl) (aM h rfl),by rw[if_pos h]⟩
     ·exact⟨_,ah (show jA true 0 (fE o 0)=some _ from rfl) (al h rfl),by rw[if_neg h]⟩
 grind
end
def qD:List UInt8->List UInt8×Option (List UInt8)
 |[]=>([],none)
 |c::l=>if(c.toNat:Int)==46 then([],some l)else(c::(qD l).1,(qD l).2)
def HP:∀(l:List UInt8),(match(qD l).2 with
 |none=>Lib.indexByte l 46=-1/\(qD l).1=l
 |some r=>Lib.indexByte l 46=((qD l).1.length:Int)/\l=(qD l).1++46::r)
 |[]=>⟨rfl,rfl⟩
 |c::l=>by
  have e:=of_decide_eq_true (nr (fun c=>decide ((c==46)=(c.toNat==46))) B_ c)
  have ih:=HP l
  rw[qD,Lib.indexByte]
  grind
def Sh(l:List UInt8):(qD l).1.length+((qD l).2.getD []).length<=l.length:=by
 have:=HP l
 grind
def Ep:Nat->List UInt8->Int
 |0,_=>0
 |k+1,l=>(match l with
  |[]=>0
  |c::l=>((c.toNat:Int) -48)*10^k+Ep k l)
def Py:∀(k:Nat)(l:List UInt8),l.all fJ=true->0<=Ep k l/\Ep k l<10^k
 |0,_,_=>⟨Int.le_refl _,by show 0<1;decide⟩
 |k+1,[],_=>⟨Int.le_refl _,by exact Int.pow_pos BY⟩
 |k+1,c::l,h=>by
  rw[List.all_cons,Bool.and_eq_true]at h
  have ih:=Py k l h.2
  have hd:=by have:=h.1;unfold fJ at this;simp at this;omega
  show 0<=(c.toNat -48)*10^k+Ep k l/\(c.toNat -48)*10^k+Ep k l<_
  have e:10^(k+1)=10*10^k:=A_
  have h1:0<=((c.toNat:Int) -48)*10^k:=Int.mul_nonneg AT AT
  have h2:((c.toNat:Int) -48)*10^k<=9*10^k:=Int.mul_le_mul_of_nonneg_right AT AT
  omega
theorem CH:∀(l:List UInt8)(n:Int),0<=n->l.all fJ=true->l.length<=6->(n+1)*10^l.length<=1000000->nI l (n,false)=(n*10^l.length+Ep l.length l,0)
 |[],n,_,_,_,_=>by show(n,(0:Int))=(n*1+0,0);grind
 |c::l,n,h0,h,hl,hb=>by
  rw[List.all_cons,Bool.and_eq_true]at h
  have hd:48<=(c.toNat:Int)/\(c.toNat:Int)<=57:=by have:=h.1;unfold fJ at this;simp at this;omega
  have hp:(0:Int)<10^l.length:=Int.pow_pos By
  have e:(10:Int)^(l.length+1)=10*10^l.length:=by rw[Int.pow_succ,Int.mul_comm]
  rw[List.length_cons,e]at hb
  have hb':(10*n+((c.toNat:Int) -48)+1)*10^l.length<=1000000:=by
   refine Int.le_trans (Int.mul_le_mul_of_nonneg_right (c:=10^l.length) (show 10*n+((c.toNat:Int) -48)+1<=(n+1)*10 by omega) AT) ?_
   rw[Int.mul_assoc];exact hb
  have hn:n<=1000000:=by
   have:n+1<=(n+1)*(10*10^l.length):=by
    have:(n+1)*1<=(n+1)*(10*10^l.length):=Int.mul_le_mul_of_nonneg_left AT AT
    omega
   omega
  have hs:rX (n,false) c=(10*n+((c.toNat:Int) -48),false):=by
   unfold rX
   have:decide (n>(2147483647 -((c.toNat:Int) -48)).tdiv 10)=false:=by
    rw[decide_eq_false_iff_not,Int.tdiv_eq_ediv_of_nonneg AT]
    omega
   simp[this]
  rw[nI,if_pos h.1,hs,CH l _ AT h.2 A_ hb',List.length_cons,e]
  grind [Ep,Int.add_mul,Int.mul_comm,Int.mul_assoc]
theorem Px:∀(k:Nat)(l:List UInt8),Ep k ((l++List.replicate k 48).take k)=Ep k l
 |0,_=>rfl
 |k+1,[]=>by
  have z:∀k m,Ep k (List.replicate m 48)=0:=by
   intro k
   induction k with
   |zero=>intro m;rfl
   |succ k ih=>
    intro m
    cases m with
    |zero=>rfl
    |succ m=>grind [Ep,List.replicate]
  grind
 |k+1,c::l=>by
  show(c.toNat -48)*10^k+Ep k ((l++List.replicate (k+1) 48).take k)=(c.toNat -48)*10^k+Ep k l
  rw[<-Px k l,List.replicate_succ',<-List.append_assoc,List.take_append_of_le_length BY]
def XI(sg:Int)(wh:List UInt8)(ro:Option (List UInt8)):aa×Int:=
 if(wh.length+(ro.getD []).length==0)||!wh.all fJ||!(ro.getD []).all fJ then(⟨0,0,⟨[]⟩,[]⟩,11)
 else if(nI wh (0,false)).2 !=0 then(⟨0,0,⟨[]⟩,[]⟩,5)
 else match ro with
  |none=>(⟨2,sg*(nI wh (0,false)).1,⟨[]⟩,[]⟩,0)
  |some r=>if(nI wh (0,false)).1*1000000+Ep 6 r>2147483647000000 then(⟨0,0,⟨[]⟩,[]⟩,5)else(⟨3,sg*((nI wh (0,false)).1*1000000+Ep 6 r),⟨[]⟩,[]⟩,0)
def Z0(sg:Int)(body:List UInt8):aa×Int:=XI sg (qD body).1 (qD body).2
def RE(s:List UInt8):aa×Int:=match s with
 |[]=>Z0 1 []
 |c::r=>if(c.toNat:Int)==45 then Z0 (-1) r else if(c.toNat:Int)==43 then Z0 1 r else Z0 1 (c::r)
def Kl:∀(l:List UInt8)(n:Int)(o:Bool),0<=n->n<=2147483647->l.all fJ=true->0<=(nI l (n,o)).1/\(nI l (n,o)).1<=2147483647/\((nI l (n,o)).2=0\/(nI l (n,o)).2=5)
 |[],n,o,h0,h1,_=>by
  rw[nI]
  grind
 |c::l,n,o,h0,h1,h=>by
  rw[List.all_cons,Bool.and_eq_true]at h
  have hd:=by have:=h.1;unfold fJ at this;omega
  rw[nI,if_pos h.1]
  cases hs:rX (n,o) c with
  |mk m p=>
   have hm:0<=m/\m<=2147483647:=by
    unfold rX at hs
    simp at hs
    split at hs
    ·grind
    ·grind
   exact Kl l m p hm.1 hm.2 h.2
def WQ(s:List UInt8)(x:UInt8):cY ⟨s⟩ ⟨[x]⟩=some (match s with
 |[]=>false
 |c::_=>c==x):=by
 unfold cY cV
 cases s with
 |nil=>simp_all
 |cons c r=>
  have e1:decide ((((⟨c::r⟩:aO).b.length):Int)>=(((⟨[x]⟩:aO).b.length:Nat)))=true:=A_
  have e2:(aO.mk (part (c::r) 0 ((((⟨[x]⟩:aO).b.length:Nat))))).b=[c]:=D_
  simp_all
def aa0(body:List UInt8)(hb:body.length<1048576):mX ⟨body⟩ ⟨[46]⟩=some (⟨(qD body).1⟩,⟨(qD body).2.getD []⟩,(qD body).2.isSome):=by
 have EK:gL ⟨body⟩ ⟨[46]⟩=some (Lib.indexByte body 46):=rfl
 have:=HP body
 refine ah (a:=(⟨(qD body).1⟩,⟨(qD body).2.getD []⟩,(qD body).2.isSome)) (ah EK ?_) rfl
 cases h:(qD body).2 with
 |none=>grind
 |some r=>
  rw[h]at this
  obtain⟨i1,i2⟩:=this
  have hl:=congrArg List.length i2
  rw[List.length_append,List.length_cons]at hl
  rw[i1]
  generalize(qD body).1=wh at*
  have w1:aC (wh.length+(((⟨[46]⟩:aO).b.length):Int))=((wh.length+1):Int):=by exact zb AT
  refine aM BY (aA A_ (aA A_ ?_))
  have p1:part body 0 wh.length=wh:=by
   conv=>lhs;rw[i2]
   exact List.take_left
  have p2:part body ((wh.length+1:Nat):Int) body.length=r:=by
   unfold part
   rw[Int.toNat_natCast,show(body.length -((wh.length+1:Nat):Int)).toNat=r.length by omega]
   conv=>lhs;rw[i2]
   rw[List.drop_append,List.drop_eq_nil_of_le AT,show wh.length+1 -wh.length=1 by omega]
   exact List.take_length
  grind
def nb0(k:Nat):((k:Int)==0)=(k==0):=A_
def ab7(r:List UInt8)(hb:r.length<1048576)(h:r.all fJ=true):jM ⟨r⟩=some (Ep 6 r):=by
 have e:(aO.mk (part (aO.mk (r++(aO.mk [48,48,48,48,48,48]).b)).b 0 6)).b=(r++List.replicate 6 48).take 6:=D_
 refine aA (by grind [Th]) (aA ⟨Int.le_refl _,BY,A_⟩ (ah (a:=(Ep 6 r,0)) ?_ rfl))
 unfold mn
 rw[e]
 have hlen:((r++List.replicate 6 48).take 6).length=6:=BY
 have eo:((r++List.replicate 6 48).take 6).all fJ=true:=by
  rw[List.all_eq_true]
  intro x hx
  rcases List.mem_append.1 (List.mem_of_mem_take hx)with h1|h1
  ·grind
  ·rw[(List.mem_replicate.1 h1).2];rfl
 rw[CH _ 0 (Int.le_refl _) eo AT A_,hlen,Px]
 simp
def Um{s:List UInt8}{F:Int×aO->Option (aa×Int)}{o:Option (Int×aO)}{sg:Int}{body:List UInt8}{r:aa×Int}(h:o=some (sg,⟨body⟩))(k:F (sg,⟨body⟩)=some r)(e:RE s=r):jn o F=some (RE s):=H_
def akc(s:List UInt8)(hb:s.length<1048576):og ⟨s⟩=some (RE s):=by
 unfold og
 obtain⟨sg,body,h1,h2,h3,h4⟩:∃(sg:Int)(body:List UInt8),(aQ (cY ⟨s⟩ (aO.mk [45])) fun r4=>
  if r4 then
   a8 (0<=(1:Int)/\1<=(((⟨s⟩:aO).b.length:Nat):Int)/\(((⟨s⟩:aO).b.length:Nat):Int)<=(((⟨s⟩:aO).b.length:Nat):Int))<|
   some ((-1),aO.mk (part s 1 (s.length:Int)))
  else
   aQ (cY ⟨s⟩ (aO.mk [43])) fun r5=>
   if r5 then
    a8 (0<=(1:Int)/\1<=(((⟨s⟩:aO).b.length:Nat):Int)/\(((⟨s⟩:aO).b.length:Nat):Int)<=(((⟨s⟩:aO).b.length:Nat):Int))<|
    some (1,aO.mk (part s 1 (s.length:Int)))
   else
    some (1,⟨s⟩))=some (sg,⟨body⟩)/\RE s=Z0 sg body/\(sg=1\/sg=-1)/\body.length<=s.length:=by
  cases s with
  |nil=>exact⟨1,[],ah (WQ [] 45) (al nF (ah (WQ [] 43) (al nF rfl))),rfl,.inl rfl,Nat.le_refl _⟩
  |cons c r=>
   have e45:(c==45)=((c.toNat:Int)==45):=of_decide_eq_true (nr (fun c=>decide ((c==45)=((c.toNat:Int)==45))) B_ c)
   have e43:(c==43)=((c.toNat:Int)==43):=of_decide_eq_true (nr (fun c=>decide ((c==43)=((c.toNat:Int)==43))) B_ c)
   have pr:part (c::r) 1 ((c::r).length:Int)=r:=by
    unfold part
    rw[show(1:Int).toNat=1 from rfl,List.length_cons,show(((r.length+1:Nat):Int) -1).toNat=r.length by omega]
    show r.take r.length=r
    exact List.take_length
   have nd:0<=(1:Int)/\1<=(((c::r).length:Nat):Int)/\(((c::r).length:Nat):Int)<=(((c::r).length:Nat):Int):=by rw[List.length_cons];omega
   have h45:=WQ (c::r) 45
   have h43:=WQ (c::r) 43
   simp only[e45]at h45
   simp only[e43]at h43
   by_cases c45:((c.toNat:Int)==45)=true
   ·refine⟨-1,r,ah h45 (aM c45 (aA nd ?_)),Xe0,.inr rfl,BY⟩
    rw[pr]
   ·by_cases c43:((c.toNat:Int)==43)=true
    ·refine⟨1,r,ah h45 (al c45 (ah h43 (aM c43 (aA nd ?_)))),Xe0,.inl rfl,BY⟩
     rw[pr]
    ·exact⟨1,c::r,ah h45 (al c45 (ah h43 (al c43 rfl))),Xe0,.inl rfl,Nat.le_refl _⟩
 refine Um (r:=Z0 sg body) h1 ?_ h2
 refine ah (aa0 body AT) ?_
 have hlen:=Sh body
 unfold Z0
 generalize hwr:qD body=q at hlen
 obtain⟨wh,ro⟩:=q
 show(aQ (jA (!((aC ((wh.length:Int)+((ro.getD []).length:Int)))==0)) false (nQ ⟨wh⟩)) _)=some (XI sg wh ro)
 unfold XI
 have wl:aC ((wh.length:Int)+((ro.getD []).length:Int))=((wh.length+(ro.getD []).length:Nat):Int):=by
  have hlen:wh.length+(ro.getD []).length<=body.length:=hlen
  rw[an AT AT];rfl
 have hlen:wh.length+(ro.getD []).length<=body.length:=hlen
 have wz:((aC ((wh.length:Int)+((ro.getD []).length:Int)))==0)=((wh.length+(ro.getD []).length)==0):=by rw[wl];exact nb0 _
 simp only[wz]
 cases hz:((wh.length+(ro.getD []).length)==0)with
 |true=>simp_all
 |false=>
  rw[Bool.false_or,Bool.not_false,JF]
  refine ah (show nQ ⟨wh⟩=some (wh.all fJ) from rfl) ?_
  cases ha:wh.all fJ with
  |false=>simp_all
  |true=>
   rw[Bool.not_true,Bool.false_or,Bool.false_or,Bool.not_false,JF]
   refine ah (show nQ ⟨ro.getD []⟩=some ((ro.getD []).all fJ) from rfl) ?_
   cases hr:(ro.getD []).all fJ with
   |false=>grind
   |true=>
    rw[Bool.not_true,if_neg nF]
    refine al nF (aA (by grind [Th]) ?_)
    have d0:rX (0,false) 48=(0,false):=By
    have hd:mn (aO.mk ((aO.mk [48]).b++(⟨wh⟩:aO).b))=some (nI wh (0,false)):=by
     show some (nI (48::wh) (0,false))=_
     rw[nI,if_pos (show fJ 48=true from rfl),d0]
    refine ah hd ?_
    have rg:=Kl wh 0 false (Int.le_refl _) By ha
    generalize nI wh (0,false)=n at rg
    obtain⟨n,e⟩:=n
    obtain⟨n0,n1,n2⟩:=rg
    have n0:0<=n:=n0
    have n1:n<=2147483647:=n1
    have n2:e=0\/e=5:=n2
    rcases n2 with rfl|rfl
    ·refine al nF ?_
     have h0:¬(((n,(0:Int)).2 !=0)=true):=by show¬(((0:Int)!=0)=true);decide
     rw[if_neg h0]
     cases ro with
     |none=>
      refine aM rfl ?_
      show some ((⟨2,aC (sg*n),⟨[]⟩,[]⟩:aa),(0:Int))=some (⟨2,sg*n,⟨[]⟩,[]⟩,0)
      rw[an A_ A_]
     |some r=>
      have hr:r.all fJ=true:=hr
      have hrl:r.length<=body.length:=by simp only[Option.getD_some]at hlen;omega
      refine al nF (ah (ab7 r AT hr) ?_)
      have pr:=Py 6 r hr
      have p6:Ep 6 r<1000000:=pr.2
      have wN:aC (sg*(aC ((aC (n*1000000))+Ep 6 r)))=sg*(n*1000000+Ep 6 r):=by rw[an (n:=n*1000000) AT AT,an (n:=n*1000000+Ep 6 r) AT AT,an A_ A_]
      simp only[wN]
      have amh:aC (0 -2147483647000000)=-2147483647000000:=By
      by_cases hov:n*1000000+Ep 6 r>2147483647000000
      ·rw[if_pos hov]
       refine ah (a:=2) ?_ (aM rfl rfl)
       unfold oe
       refine dT (z:=.inl 2147483647000000) (al A_ (aM rfl rfl)) (aM ?_ rfl)
       grind
      ·rw[if_neg hov]
       refine ah (a:=0) ?_ (al By rfl)
       unfold oe
       refine dT (z:=.inl 2147483647000000) (al A_ (aM rfl rfl)) (al ?_ rfl)
       grind
    grind
def EU:aa:=⟨0,0,⟨[]⟩,[]⟩
def Uk(f:Nat):aG:=⟨0,f,f,EU,⟨[]⟩⟩
def tok(f t:Nat)(q:aa×Int):aG×Int:=if q.2 !=0 then(Uk f,q.2)else(⟨1,f,t,q.1,⟨[]⟩⟩,0)
def An(f:Nat):(List UInt8×Nat)⊕Int->aG×Int
 |.inl r=>(⟨1,f,r.2,⟨4,0,⟨r.1⟩,[]⟩,⟨[]⟩⟩,0)
 |.inr e=>(Uk f,e)
def acm(c:UInt8):Bool:=((((decide ((c.toNat:Int)>=48))&&(decide ((c.toNat:Int)<=57)))||((c.toNat:Int)==43))||((c.toNat:Int)==45))||((c.toNat:Int)==46)
section
variable(b:List UInt8)(last:Bool)
def Mk(f:Nat)(c:UInt8):aG×Int:=
 if Yl c then(if(decide ((u7 b f:Int)<(b.length:Int)))||last then(if acm c then tok f (u7 b f) (RE (part b (f:Int) (u7 b f:Int)))else(⟨6,f,u7 b f,EU,⟨part b (f:Int) (u7 b f:Int)⟩⟩,0))else(Uk f,6))
 else if(c.toNat:Int)==91 then(⟨2,f,((f+1:Nat):Int),EU,⟨[]⟩⟩,0)
 else if(c.toNat:Int)==93 then(⟨3,f,((f+1:Nat):Int),EU,⟨[]⟩⟩,0)
 else if(c.toNat:Int)==60 then(match b[f+1]? with
  |none=>(Uk f,zt last)
  |some d=>if(d.toNat:Int)==60 then(⟨4,f,((f+2:Nat):Int),EU,⟨[]⟩⟩,0)else An f (Gk b last (b.length+1) ([],-1) (f+1)))
 else if(c.toNat:Int)==62 then(match b[f+1]? with
  |none=>(Uk f,if last then 11 else 6)
  |some d=>if(d.toNat:Int)==62 then(⟨5,f,((f+2:Nat):Int),EU,⟨[]⟩⟩,0)else(Uk f,11))
 else if(c.toNat:Int)==40 then An f (zf b last (b.length+1) 1 [] (f+1))
 else if(c.toNat:Int)==47 then(if(decide ((u7 b (f+1):Int)<(b.length:Int)))||last then tok f (u7 b (f+1)) (RC (part b ((f+1:Nat):Int) (u7 b (f+1):Int)))else(Uk f,6))
 else(Uk f,11)
def iO(k:Nat):aG×Int:=match b[Fa b k]? with
 |none=>(Uk (Fa b k),if last then 0 else 6)
 |some c=>Mk b last (Fa b k) c
variable{b last}
def N5(k:Nat)(hk:k<=b.length):k<=Fa b k/\Fa b k<=b.length:=N6 _ _ _ hk
def I4(k:Nat)(hk:k<=b.length):k<=u7 b k/\u7 b k<=b.length:=I6 _ _ hk
def U9{k:Nat}{c:UInt8}(hx:b[k]? =some c)(hc:Yl c=true):k<u7 b k:=by
 obtain⟨hl,_⟩:=dH hx
 unfold u7
 obtain⟨m,hm⟩:∃m,b.length=m+1:=⟨b.length -1,AT⟩
 rw[hm,JM]
 grind [I6]
def QU{k e:Nat}{c:UInt8}(hx:b[k]? =some c)(h1:k<e)(h2:e<=b.length):part b (k:Int) (e:Int)=c::part b ((k+1:Nat):Int) (e:Int)/\(part b (k:Int) (e:Int)).length=e -k:=by
 obtain⟨hl,hc⟩:=List.getElem?_eq_some_iff.1 hx
 unfold part
 rw[Int.toNat_natCast,show(e -(k:Int)).toNat=(e -(k+1))+1 by omega,List.drop_eq_getElem_cons hl,List.take_succ_cons]
 grind
def UE{k e:Nat}(h1:k<=e)(h2:e<=b.length):(part b (k:Int) (e:Int)).length=e -k:=by grind [part,List.length_take,List.length_drop,Int.toNat_natCast]
theorem nY:∀(f:Nat)(d:Int)(o:List UInt8)(j:Nat),j<=b.length->Z8 j b.length (zf b last f d o j)
 |0,d,o,j,_=>xY last
 |f+1,d,o,j,hj=>by
  rw[zf]
  cases hx:b[j]? with
  |none=>exact xY last
  |some c=>
   have hl:=(dH hx).1
   simp only
   have up:∀{r:(List UInt8×Nat)⊕Int}{j':Nat},j<j'->Z8 j' b.length r->Z8 j b.length r:=fun{r j'} h hr=>by
    cases r with
    |inl r=>exact⟨Nat.lt_trans h hr.1,hr.2⟩
    |inr e=>exact hr
   split
   ·have hp:=OT (b:=b) (last:=last) (j+1) AT
    cases hes:MX b last (j+1)with
    |inr e=>rw[hes]at hp;rw[hp];exact xY last
    |inl r=>rw[hes]at hp;exact up (by have:=hp.1;omega) (nY f d _ r.2 hp.2.1)
   ·split
    ·cases hy:b[j+1]? with
     |none=>
      simp only
      split
      ·exact up (Nat.lt_succ_self j) (nY f d _ (j+1) AT)
      ·exact(by decide:(6:Int)≠0)
     |some e=>
      have hl2:=(dH hy).1
      simp only
      split
      ·exact up AT (nY f d _ (j+2) AT)
      ·exact up (Nat.lt_succ_self j) (nY f d _ (j+1) AT)
    ·split
     ·exact up (Nat.lt_succ_self j) (nY f _ _ (j+1) AT)
     ·split
      ·split
       ·exact⟨Nat.lt_succ_self j,A_⟩
       ·exact up (Nat.lt_succ_self j) (nY f _ _ (j+1) AT)
      ·exact up (Nat.lt_succ_self j) (nY f d _ (j+1) AT)
def H7(f:Nat)(x:aG×Int×aq):aG×Int:=if x.2.1 !=0 then(Uk f,x.2.1)else(⟨x.1.Kind,f,x.2.2.at_,x.1.V,x.1.S⟩,0)
def abO(hb:b.length<1048576)(f:Nat)(c:UInt8)(hx:b[f]? =some c):∃x,iC ⟨Ba.zero,b,(f:Int),last⟩ c=some x/\H7 f x=Mk b last f c:=by
 obtain⟨hl,hi⟩:=dH hx
 have hw:=zb (n:=f) AT
 unfold iC Mk
 refine eK (fun z=>z=Yl c) ⟨_,K8 c,rfl⟩ ?_
 rintro _ rfl
 have hru:=I4 (b:=b) f AT
 cases hr:Yl c with
 |true=>
  have hlt:=U9 hx hr
  obtain⟨p1,p2⟩:=QU hx hlt hru.2
  simp only[if_true]
  unfold gK
  rw[ZT AT Ba.zero f last AT,aN]
  show∃x,(aQ (if(!((decide ((u7 b f:Int)<(b.length:Int)))||last))=true then _ else a8 (0<=(0:Int)/\(0:Int)<((part b (f:Int) (u7 b f:Int)).length:Int)) (if acm (ix (part b (f:Int) (u7 b f:Int)) 0)=true then _ else _)) _)=some x/\_
  have hix:ix (part b (f:Int) (u7 b f:Int)) 0=c:=by rw[p1];rfl
  rw[hix]
  cases hd:(decide ((u7 b f:Int)<(b.length:Int)))||last with
  |false=>exact⟨_,ah (aM rfl rfl) rfl,by rw[if_neg nF];rfl⟩
  |true=>
   rw[if_pos rfl]
   have nd:0<=(0:Int)/\(0:Int)<((part b (f:Int) (u7 b f:Int)).length:Int):=by rw[p2];omega
   by_cases hn:acm c=true
   ·rw[if_pos hn,if_pos hn]
    refine⟨_,ah (al nT (aA nd (ah (akc _ A_) rfl))) rfl,?_⟩
    grind [H7,tok]
   ·rw[if_neg hn,if_neg hn]
    exact⟨_,ah (al nT (aA nd rfl)) rfl,rfl⟩
 |false=>
  rw[if_neg nF]
  simp only[hw]
  rw[if_neg nF]
  by_cases h91:((c.toNat:Int)==91)=true
  ·rw[if_pos h91,if_pos h91];exact⟨_,rfl,rfl⟩
  rw[if_neg h91,if_neg h91]
  by_cases h93:((c.toNat:Int)==93)=true
  ·rw[if_pos h93,if_pos h93];exact⟨_,rfl,rfl⟩
  rw[if_neg h93,if_neg h93]
  by_cases h60:((c.toNat:Int)==60)=true
  ·rw[if_pos h60,if_pos h60]
   unfold iB
   cases hy:b[f+1]? with
   |none=>exact⟨_,ah (ah (sj hy) (aM rfl (ah (Pj ..) rfl))) rfl,by unfold H7;exact if_pos (by grind [zt])⟩
   |some d=>
    have hl2:=(dH hy).1
    have hw2:=zb (n:=f+1) AT
    simp only
    by_cases hd:((d.toNat:Int)==60)=true
    ·rw[if_pos hd]
     refine⟨_,ah (ah (fx hy) (al nT (aM hd rfl))) rfl,?_⟩
     show((⟨4,f,aC (((f+1:Nat):Int)+1),EU,⟨[]⟩⟩:aG),(0:Int))=_
     rw[hw2]
    ·rw[if_neg hd]
     obtain⟨x,x1,x2⟩:=abM (last:=last) hb false (f+1) AT
     refine⟨_,ah (ah (fx hy) (al nT (al hd (ah (show gb ⟨Ba.zero,b,_,last⟩=_ from x1) rfl)))) rfl,?_⟩
     have hp:=B4 (b:=b) (last:=last) (b.length+1) ([],-1) (f+1) AT
     cases hq:Gk b last (b.length+1) ([],-1) (f+1)with
     |inl r=>
      rw[hq]at x2
      obtain⟨y1,y2,y3⟩:=x2
      unfold H7 An
      grind
     |inr e=>
      rw[hq]at x2 hp
      have x2:x.2.1=e:=x2
      have hp:e≠0:=hp
      unfold H7 An
      grind
  rw[if_neg h60,if_neg h60]
  by_cases h62:((c.toNat:Int)==62)=true
  ·rw[if_pos h62,if_pos h62]
   unfold iw
   cases hy:b[f+1]? with
   |none=>
    cases last with
    |true=>exact⟨_,ah (ah (sj hy) (al nF (aM rfl rfl))) rfl,rfl⟩
    |false=>exact⟨_,ah (ah (sj hy) (aM rfl rfl)) rfl,rfl⟩
   |some d=>
    have hl2:=(dH hy).1
    have hw2:=zb (n:=f+1) AT
    simp only
    by_cases hd:((d.toNat:Int)==62)=true
    ·rw[if_pos hd]
     refine⟨_,ah (ah (fx hy) (al nF (al A_ rfl))) rfl,?_⟩
     show((⟨5,f,aC (((f+1:Nat):Int)+1),EU,⟨[]⟩⟩:aG),(0:Int))=_
     rw[hw2]
    ·rw[if_neg hd]
     exact⟨_,ah (ah (fx hy) (al nF (aM A_ rfl))) rfl,rfl⟩
  rw[if_neg h62,if_neg h62]
  by_cases h40:((c.toNat:Int)==40)=true
  ·rw[if_pos h40,if_pos h40]
   obtain⟨x,x1,x2⟩:=agj (last:=last) hb false (f+1) AT
   refine⟨_,ah (show gT ⟨Ba.zero,b,_,last⟩=_ from x1) rfl,?_⟩
   have hp:=nY (b:=b) (last:=last) (b.length+1) 1 [] (f+1) AT
   cases hq:zf b last (b.length+1) 1 [] (f+1)with
   |inl r=>
    rw[hq]at x2
    obtain⟨y1,y2,y3⟩:=x2
    unfold H7 An
    grind
   |inr e=>
    rw[hq]at x2 hp
    have x2:x.2.1=e:=x2
    have hp:e≠0:=hp
    unfold H7 An
    grind
  rw[if_neg h40,if_neg h40]
  by_cases h47:((c.toNat:Int)==47)=true
  ·rw[if_pos h47,if_pos h47]
   have hr2:=I4 (b:=b) (f+1) AT
   have pl:=UE (b:=b) hr2.1 hr2.2
   refine eK (fun z=>z=_) ⟨_,ZT AT Ba.zero (f+1) last AT,rfl⟩ ?_
   rintro _ rfl
   cases hd:(decide ((u7 b (f+1):Int)<(b.length:Int)))||last with
   |false=>exact⟨_,aM rfl rfl,by rw[if_neg nF];rfl⟩
   |true=>
    rw[if_pos rfl]
    refine⟨_,al nT (ah (agh A_) rfl),?_⟩
    grind [H7,tok]
  rw[if_neg h47,if_neg h47]
  exact⟨_,rfl,rfl⟩
theorem AU(hb:b.length<1048576)(k:Nat)(hk:k<=b.length):eI b (k:Int) last=some (iO b last k):=by
 unfold eI iO
 have hs:=N5 k hk
 refine al A_ (ah (agi AT k hk) ?_)
 cases hx:b[Fa b k]? with
 |none=>
  have:=rQ hx
  refine aM A_ ?_
  cases last<;>rfl
 |some c=>
  obtain⟨hl,hi⟩:=dH hx
  obtain⟨x,x1,x2⟩:=abO hb (Fa b k) c hx
  refine al A_ (aA AT ?_)
  rw[hi]
  refine ah x1 ?_
  show _=some (Mk b last (Fa b k) c)
  rw[<-x2]
  unfold H7
  by_cases he:(x.2.1 !=0)=true
  ·rw[if_pos he,if_pos he];rfl
  grind
def tR(t:aG):uj:=⟨t.Kind,t.aS,t.To,t.V,t.S⟩
end
structure Ax(b:List UInt8)(k:Nat)(t:aG):Prop where
 to:∃j:Nat,t.To=(j:Int)/\j<=b.length/\k<=j/\(t.Kind≠0->k<j)
 kd:t.Kind=0\/t.Kind=1\/t.Kind=2\/t.Kind=3\/t.Kind=4\/t.Kind=5\/t.Kind=6
 nm:t.Kind=1->t.V.Kind=5->t.V=⟨5,0,t.V.S,[]⟩
theorem aca(w:List UInt8)(h:(RC w).1.Kind=5):(RC w).1=⟨5,0,(RC w).1.S,[]⟩:=by
 unfold RC at h⊢
 cases hx:RD w (w.length+1) [] 0 with
 |inr e=>grind
 |inl o=>
  unfold naF at h⊢
  grind
def NC(sg:Int)(wh:List UInt8)(ro:Option (List UInt8)):(XI sg wh ro).1.Kind≠5:=by
 unfold XI
 grind
theorem ack(s:List UInt8):(RE s).1.Kind≠5:=by
 cases s with
 |nil=>exact NC _ _ _
 |cons c r=>
  show(if _ then _ else _:aa×Int).1.Kind≠5
  split
  ·exact NC _ _ _
  ·split<;>exact NC _ _ _
def A2{b:List UInt8}{last:Bool}{k:Nat}(hk:k<=b.length)(h:(iO b last k).2=0):Ax b k (iO b last k).1:=by
 have hs:=N5 (b:=b) k hk
 unfold iO at h⊢
 cases hx:b[Fa b k]? with
 |none=>
  rw[hx]at h
  exact⟨⟨Fa b k,rfl,hs.2,hs.1,fun h=>absurd rfl h⟩,.inl rfl,fun h=>F_⟩
 |some c=>
  rw[hx]at h
  have h:(Mk b last (Fa b k) c).2=0:=h
  show Ax b k (Mk b last (Fa b k) c).1
  generalize hf:Fa b k=f at*
  have hfl:f<b.length:=(List.getElem?_eq_some_iff.1 hx).1
  have str:∀T:(List UInt8×Nat)⊕Int,Z8 (f+1) b.length T->(An f T).2=0->Ax b k (An f T).1:=fun T hT h=>by
   cases T with
   |inl r=>exact⟨⟨r.2,rfl,hT.2,by have:=hT.1;omega,fun _=>by have:=hT.1;omega⟩,.inr (.inl rfl),fun _ h=>F_⟩
   |inr e=>exact absurd h hT
  have tk:∀(e:Nat)(q:aa×Int),f<e->e<=b.length->(q.2=0->q.1.Kind=5->q.1=⟨5,0,q.1.S,[]⟩)->(tok f e q).2=0->Ax b k (tok f e q).1:=fun e q h1 h2 hq h=>by
   unfold tok at h⊢
   by_cases hc:(q.2 !=0)=true
   ·grind
   ·rw[if_neg hc]
    have hc:q.2=0:=J_
    exact⟨⟨e,rfl,h2,AT,fun _=>AT⟩,.inr (.inl rfl),fun _ h=>hq hc h⟩
  have one:∀(kd:Int)(n:Nat),f<n->n<=b.length->(kd=2\/kd=3\/kd=4\/kd=5)->∀t:aG,t=⟨kd,f,(n:Int),EU,⟨[]⟩⟩->Ax b k t:=fun kd n h1 h2 hkd t ht=>by
   subst ht
   refine⟨⟨n,rfl,h2,AT,fun _=>AT⟩,?_,fun h=>?_⟩
   ·grind
   grind
  unfold Mk at h⊢
  split at h
  ·rename_i hc
   rw[if_pos hc]
   have hr:=U9 hx hc
   have hr2:=(I4 (b:=b) f AT).2
   split at h
   ·rename_i hl
    rw[if_pos hl]
    split at h
    ·rename_i hn
     rw[if_pos hn]
     grind [absurd,ack]
    ·rename_i hn
     rw[if_neg hn]
     exact⟨⟨u7 b f,rfl,hr2,AT,fun _=>AT⟩,BY,fun h=>F_⟩
   ·cases h
  ·rename_i hc
   rw[if_neg hc]
   split at h
   ·rename_i h1;rw[if_pos h1]
    exact one 2 (f+1) AT AT BY _ rfl
   ·rename_i h1;rw[if_neg h1]
    split at h
    ·rename_i h2;rw[if_pos h2]
     exact one 3 (f+1) AT AT BY _ rfl
    ·rename_i h2;rw[if_neg h2]
     split at h
     ·rename_i h3;rw[if_pos h3]
      cases hd:b[f+1]? with
      |none=>grind [zt,absurd]
      |some d=>
       have hd1:f+1<b.length:=(List.getElem?_eq_some_iff.1 hd).1
       rw[hd]at h
       simp only at h⊢
       split at h
       ·rename_i h4;rw[if_pos h4]
        exact one 4 (f+2) AT AT BY _ rfl
       ·rename_i h4;rw[if_neg h4]
        grind [B4]
     ·rename_i h3;rw[if_neg h3]
      split at h
      ·rename_i h4;rw[if_pos h4]
       cases hd:b[f+1]? with
       |none=>grind
       |some d=>
        have hd1:f+1<b.length:=(List.getElem?_eq_some_iff.1 hd).1
        rw[hd]at h
        simp only at h⊢
        split at h
        ·rename_i h5;rw[if_pos h5]
         exact one 5 (f+2) AT AT BY _ rfl
        ·cases h
      ·rename_i h4;rw[if_neg h4]
       split at h
       ·rename_i h5;rw[if_pos h5]
        grind [nY]
       ·rename_i h5;rw[if_neg h5]
        split at h
        ·rename_i h6;rw[if_pos h6]
         have hr2:=I4 (b:=b) (f+1) AT
         split at h
         ·rename_i hl
          rw[if_pos hl]
          grind [aca]
         ·cases h
        ·cases h
def Lf(v:aa):Prop:=v.L=[]/\v.Kind≠8
def Ul(sg:Int)(wh:List UInt8)(ro:Option (List UInt8)):Lf (XI sg wh ro).1:=by
 unfold XI Lf
 grind
def agJ(s:List UInt8):Lf (RE s).1:=by
 cases s with
 |nil=>exact Ul _ _ _
 |cons c r=>
  show Lf (if _ then _ else _:aa×Int).1
  split
  ·exact Ul _ _ _
  ·split<;>exact Ul _ _ _
def agw(w:List UInt8):Lf (RC w).1:=by grind [RC,RD,naF,Lf]
def Lf0:Lf EU:=⟨rfl,By⟩
def aaC{f e:Nat}{q:aa×Int}(h:Lf q.1):Lf (tok f e q).1.V:=by
 unfold tok
 split
 ·exact Lf0
 ·exact h
def ahx{f:Nat}{T:(List UInt8×Nat)⊕Int}:Lf (An f T).1.V:=by cases T<;>exact⟨rfl,fun h=>F_⟩
theorem ahE(b:List UInt8)(last:Bool)(f:Nat)(c:UInt8):Lf (Mk b last f c).1.V:=by
 unfold Mk
 repeat' split
 all_goals first|exact Lf0|exact⟨rfl,fun h=>F_⟩|exact aaC (agJ _)|exact aaC (agw _)|exact ahx
def akl(b:List UInt8)(last:Bool)(k:Nat):Lf (iO b last k).1.V:=by
 unfold iO
 split
 ·exact Lf0
 grind [ahE]
def Ev(b c:List UInt8):Prop:=b.length<=c.length/\∀(j:Nat)(x:UInt8),b[j]? =some x->c[j]? =some x
section
variable{b c:List UInt8}{l:Bool}
theorem Ev.part(hp:Ev b c){i j:Nat}(h:j<=b.length):part c (i:Int) (j:Int)=part b (i:Int) (j:Int):=by
 unfold AB.part
 refine List.ext_getElem? fun m=>?_
 rw[List.getElem?_take,List.getElem?_take]
 split
 ·have hlt:i+m<b.length:=AT
  have:=hp.2 _ _ (List.getElem?_eq_getElem hlt)
  grind
 ·rfl
def PE(hp:Ev b c):∀(f f':Nat)(q:Bool)(j:Nat),b.length -j<=f->c.length -j<=f'->b[Ja b f q j]? ≠none->Ja c f' q j=Ja b f q j
 |0,f',q,j,h,h',hn=>by grind [Ja,absurd,List.getElem?_eq_none]
 |f+1,f',q,j,h,h',hn=>by
  cases hx:b[j]? with
  |none=>grind [Ja,absurd]
  |some x=>
   have hl:=(dH hx).1
   have hc:=hp.2 _ _ hx
   have:=hp.1
   obtain⟨g,rfl⟩:∃g,f'=g+1:=⟨f' -1,AT⟩
   have ih:=fun q=>PE hp f g q (j+1) AT AT
   rw[Ja]at hn
   rw[Ja,Ja]
   grind
def I5(hp:Ev b c):∀(f f':Nat)(j:Nat),b.length -j<=f->c.length -j<=f'->JM b f j<b.length->JM c f' j=JM b f j
 |0,f',j,h,h',hn=>by grind [JM]
 |f+1,f',j,h,h',hn=>by
  cases hx:b[j]? with
  |none=>grind [rQ,JM]
  |some x=>
   have hl:=(dH hx).1
   have hc:=hp.2 _ _ hx
   have:=hp.1
   obtain⟨g,rfl⟩:∃g,f'=g+1:=⟨f' -1,AT⟩
   have ih:=I5 hp f g (j+1) AT AT
   rw[JM]at hn
   rw[JM,JM]
   grind
theorem O5(hp:Ev b c):∀(f f':Nat)(q:List UInt8×Int)(j:Nat),f<=f'->Gk b false f q j≠.inr 6->Gk c l f' q j=Gk b false f q j
 |0,_,q,j,_,h=>absurd rfl h
 |f+1,f',q,j,hf,h=>by
  obtain⟨g,rfl⟩:∃g,f'=g+1:=⟨f' -1,AT⟩
  have ih:=fun q=>O5 hp f g q (j+1) AT
  cases hx:b[j]? with
  |none=>rw[Gk,hx]at h;exact absurd rfl h
  |some x=>
   rw[Gk]at h
   rw[Gk,hp.2 _ _ hx,Gk]
   grind
theorem Pq(hp:Ev b c):∀(k:Nat)(n:Int)(j:Nat),(yN b k n j).2.2=false->yN c k n j=yN b k n j
 |0,_,_,_=>rfl
 |k+1,n,j,h=>by
  cases hx:b[j]? with
  |none=>grind [yN]
  |some x=>
   rw[yN,hx]at h
   rw[yN,hp.2 _ _ hx,yN,hx]
   simp at h⊢
   split at h<;>rename_i h1
   ·grind
   ·simp[if_neg h1];exact Pq hp k _ _ h
theorem WG(hp:Ev b c)(j:Nat)(h:MX b false j≠.inr 6):MX c l j=MX b false j:=by
 cases hx:b[j]? with
 |none=>unfold MX at h;rw[hx]at h;exact absurd rfl h
 |some x=>
  unfold MX at h⊢
  rw[hx]at h⊢
  rw[hp.2 _ _ hx]
  simp only at h⊢
  split at h<;>rename_i h1
  ·grind
  simp only[if_neg h1]
  split at h<;>rename_i h1
  ·grind
  simp only[if_neg h1]
  split at h<;>rename_i h1
  ·grind
  simp only[if_neg h1]
  split at h<;>rename_i h1
  ·grind
  simp only[if_neg h1]
  split at h<;>rename_i h1
  ·grind
  simp only[if_neg h1]
  split at h<;>rename_i h1
  ·grind
  simp only[if_neg h1]
  split at h<;>rename_i h1
  ·simp only[if_pos h1]
   cases hy:b[j+1]? with
   |none=>grind
   |some y=>rw[hp.2 _ _ hy]
  simp only[if_neg h1]
  split at h<;>rename_i h2
  ·grind
  simp only[if_neg h2]
  cases ho:(yN b 2 ((x.toNat:Int) -48) (j+1)).2.2 with
  |true=>grind
  |false=>grind [Pq]
theorem PV(hp:Ev b c):∀(f f':Nat)(d:Int)(o:List UInt8)(j:Nat),f<=f'->zf b false f d o j≠.inr 6->zf c l f' d o j=zf b false f d o j
 |0,_,_,_,_,_,h=>absurd rfl h
 |f+1,f',d,o,j,hf,h=>by
  obtain⟨g,rfl⟩:∃g,f'=g+1:=⟨f' -1,AT⟩
  have ih:=fun d o j=>PV hp f g d o j AT
  cases hx:b[j]? with
  |none=>rw[zf,hx]at h;exact absurd rfl h
  |some x=>
   rw[zf,hx]at h
   rw[zf,hp.2 _ _ hx,zf]
   simp at h⊢
   split at h
   ·grind [WG,MX]
   split at h
   ·cases hy:b[j+1]? with
    |none=>grind
    |some y=>
     rw[hp.2 _ _ hy]
     grind
   grind
theorem PO{f:Nat}{r:(List UInt8×Nat)⊕Int}(h:(An f r).2≠6):r≠.inr 6:=fun e=>by rw[e]at h;exact h rfl
theorem YH(hp:Ev b c){f:Nat}(hf:f<b.length)(x:UInt8)(h:(Mk b false f x).2≠6):Mk c l f x=Mk b false f x:=by
 have hpl:=hp.1
 unfold Mk at h⊢
 split at h<;>rename_i h1
 ·simp only[if_pos h1]
  cases hd:decide ((u7 b f:Int)<(b.length:Int))with
  |false=>grind
  |true=>
   have hlt:=of_decide_eq_true hd
   have hr:u7 c f=u7 b f:=by
    unfold u7
    exact I5 hp _ _ _ AT AT (by grind [u7])
   rw[hr,hp.part AT,decide_eq_true AT]
   rfl
 simp only[if_neg h1]
 split at h<;>rename_i h2
 ·grind
 simp only[if_neg h2]
 split at h<;>rename_i h3
 ·grind
 simp only[if_neg h3]
 split at h<;>rename_i h4
 ·simp only[if_pos h4]
  cases hy:b[f+1]? with
  |none=>rw[hy]at h;exact absurd rfl h
  |some y=>
   rw[hy]at h
   rw[hp.2 _ _ hy]
   simp only at h⊢
   split at h<;>rename_i h5
   ·grind
   ·simp only[if_neg h5];grind [O5,PO]
 simp only[if_neg h4]
 split at h<;>rename_i h5
 ·simp only[if_pos h5]
  cases hy:b[f+1]? with
  |none=>grind
  |some y=>rw[hp.2 _ _ hy]
 simp only[if_neg h5]
 split at h<;>rename_i h6
 ·simp only[if_pos h6]
  grind [PV,PO]
 simp only[if_neg h6]
 split at h<;>rename_i h7
 ·simp only[if_pos h7]
  cases hd:decide ((u7 b (f+1):Int)<(b.length:Int))with
  |false=>grind
  |true=>
   have hlt:=of_decide_eq_true hd
   have hr:u7 c (f+1)=u7 b (f+1):=by
    unfold u7
    exact I5 hp _ _ _ AT AT (by grind [u7])
   rw[hr,hp.part AT,decide_eq_true AT]
   rfl
 grind
theorem uX(hp:Ev b c){k:Nat}(hk:k<=b.length)(h:(iO b false k).2≠6):iO c l k=iO b false k:=by
 unfold iO at h⊢
 cases hx:b[Fa b k]? with
 |none=>grind
 |some x=>
  have hs:Fa c k=Fa b k:=by
   refine PE hp _ _ _ _ BY BY ?_
   show b[Fa b k]? ≠none
   rw[hx];simp
  rw[hs,hp.2 _ _ hx]
  grind [YH,dH]
end
end Go.AB
end
section
set_option maxRecDepth 4000
namespace Go.AB
open Go
open Go.Proofs.Tryz (prog)
attribute[-go_sem] Nat.add_zero mO cF cj cS bK ch
section
variable{s0 s:ae}{b:List UInt8}{most:Int}{B:Nat}{z:ZS}{Q:List AV->ae->Prop}
end
end Go.AB
end
section
set_option maxRecDepth 4000
namespace Go.AB
open Go
open Go.Proofs.Tryz (prog)
attribute[-go_sem] cj cS bK ch Nat.add_zero mO cF
end Go.AB
end
section
namespace Go.AB
open Go
section
variable{b:List UInt8}{last:Bool}
variable(b last)
def yL(k:Nat):Int×Int×Int:=if(iO b last k).2 !=0 then(0,0,(iO b last k).2)else if(iO b last k).1.Kind==0 then(0,0,10)else if !(((iO b last k).1.Kind==1)&&((iO b last k).1.V.Kind==2))then(0,0,11)else((iO b last k).1.V.N,(iO b last k).1.To,0)
def nc(k:Nat)(w:List UInt8):Int×Int:=if(iO b last k).2 !=0 then(0,(iO b last k).2)else if(iO b last k).1.Kind==0 then(0,10)else if !(((iO b last k).1.Kind==6)&&((iO b last k).1.S.b==w))then(0,11)else((iO b last k).1.To,0)
variable{b last}
def Iw(hb:b.length<1048576)(k:Nat)(hk:k<=b.length):ja b (k:Int) last=some (yL b last k):=by
 unfold ja mU yL
 rw[AU hb k hk]
 generalize iO b last k=q
 obtain⟨t,e⟩:=q
 by_cases he:(e !=0)=true
 ·simp_all
 ·rw[if_neg he]
  by_cases h0:(t.Kind==0)=true
  ·simp_all
  ·rw[if_neg h0]
   by_cases hw:(!((t.Kind==1)&&(t.V.Kind==2)))=true
   ·rw[if_pos hw];exact ah (al he (al h0 (ah rfl (aM hw rfl)))) rfl
   ·rw[if_neg hw];exact ah (al he (al h0 (ah rfl (al hw rfl)))) rfl
def TV(hb:b.length<1048576)(k:Nat)(hk:k<=b.length)(w:List UInt8):mr b (k:Int) last ⟨w⟩=some (nc b last k w):=by
 unfold mr mw nc
 rw[AU hb k hk]
 generalize iO b last k=q
 obtain⟨t,e⟩:=q
 by_cases he:(e !=0)=true
 ·simp_all
 ·rw[if_neg he]
  by_cases h0:(t.Kind==0)=true
  ·simp_all
  ·rw[if_neg h0]
   by_cases hw:(!((t.Kind==6)&&(t.S.b==w)))=true
   ·rw[if_pos hw];exact ah (al he (al h0 (ah rfl (aM hw rfl)))) rfl
   ·rw[if_neg hw];exact ah (al he (al h0 (ah rfl (al hw rfl)))) rfl
end
end Go.AB
end
