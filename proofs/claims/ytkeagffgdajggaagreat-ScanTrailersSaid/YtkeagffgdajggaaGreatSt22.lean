/- A part. -/
import Derived.Test.YtkeagffgdajggaaGreatSt21
set_option linter.unusedSimpArgs false
set_option linter.unusedVariables false
section
namespace Go.AB
open Go
def nk(last:Bool):Int:=if last then 10 else 6
theorem WY(last:Bool):gG last=some (nk last):=by cases last<;>rfl
theorem L8(B:zo)(b:List UInt8)(k:Int)(last:Bool):bZ ⟨B,b,k,last⟩=some (nk last):=by cases last<;>rfl
theorem pR{B:zo}{b:List UInt8}{j:Nat}{last:Bool}(h:b[j]? =none):bq ⟨B,b,(j:Int),last⟩=some (0,false):=by
 have:=c5 h
 exact al (by simp;omega) rfl
theorem dM{B:zo}{b:List UInt8}{j:Nat}{last:Bool}{x:UInt8}(h:b[j]? =some x):bq ⟨B,b,(j:Int),last⟩=some (x,true):=by
 obtain⟨h1,h2⟩:=a8 h
 exact ae (by simp;omega) (af (by show 0<=(j:Int)/\(j:Int)<b.length;omega) (by show some (ix b (j:Int),true)=_;rw[h2]))
theorem vR(last:Bool):nk last≠0:=by cases last<;>decide
def Su{A:Type}(j n:Nat):(A×Nat)⊕Int->Prop
 |.inl r=>j<r.2/\r.2<=n
 |.inr e=>e≠0
theorem Su.mono{A:Type}{j n:Nat}:∀{r:(A×Nat)⊕Int},Su (j+1) n r->Su j n r
 |.inl _,h=>⟨Nat.lt_of_succ_lt h.1,h.2⟩
 |.inr _,h=>h
def cj(q:List UInt8×Int)(d:Int):List UInt8×Int:=if q.2<0 then(q.1,d)else(q.1++[oq (ao (ao (16*q.2)+d))],-1)
def qH(q:List UInt8×Int):List UInt8:=if q.2>=0 then q.1++[oq (ao (16*q.2))]else q.1
section
variable(b:List UInt8)(last:Bool)
def HP:Nat->List UInt8×Int->Nat->(List UInt8×Nat)⊕Int
 |0,_,_=>.inr (nk last)
 |f+1,q,j=>match b[j]? with
  |none=>.inr (nk last)
  |some x=>if(x.toNat:Int)==62 then .inl (qH q,j+1)else if Es x then HP f q (j+1)else if decide (xF x<0)then .inr 11 else HP f (cj q (xF x)) (j+1)
variable{b last}
def Hq(q:List UInt8×Int)(j:Nat):Prop:=q.1.length<=j/\-1<=q.2/\q.2<=15
theorem Hq.mono{q:List UInt8×Int}{j:Nat}(h:Hq q j):Hq q (j+1):=⟨by have:=h.1;omega,h.2⟩
theorem Hq.step{q:List UInt8×Int}{j:Nat}(h:Hq q j)(x:UInt8):Hq (cj q (xF x)) (j+1):=by
 obtain⟨h1,h2,h3⟩:=h
 have:=Gn x
 unfold cj
 split
 ·exact⟨by show q.1.length<=j+1;omega,this.1,this.2⟩
 ·exact⟨by show(q.1++_).length<=j+1;simp;omega,by show(-1:Int)<=-1;omega,by show(-1:Int)<=15;omega⟩
theorem Dv{u:Bool}{o:List UInt8}(c:UInt8)(h:o.length+1<=room):aw ⟨u,true,⟨o⟩⟩ c=some (Rj.mk,⟨true,true,⟨o++[c]⟩⟩):=af rfl (af h rfl)
theorem UW{u:Bool}{o:List UInt8}(h:o.length<=room):bw ⟨u,true,⟨o⟩⟩=some (⟨o⟩,⟨u,false,⟨o⟩⟩):=af ⟨rfl,h⟩ rfl
theorem we:∀(f:Nat)(q:List UInt8×Int)(j:Nat),j<=b.length->Su j b.length (HP b last f q j)
 |0,q,j,_=>vR last
 |f+1,q,j,hj=>by
  rw[HP]
  cases hx:b[j]? with
  |none=>exact vR last
  |some x=>
   have hl:=(a8 hx).1
   simp only
   by_cases h1:((x.toNat:Int)==62)=true
   ·rw[if_pos h1];exact⟨by show j<j+1;omega,by show j+1<=_;omega⟩
   ·rw[if_neg h1]
    by_cases h2:Es x=true
    ·rw[if_pos h2];exact(we f q (j+1) (by omega)).mono
    ·rw[if_neg h2]
     by_cases h3:(decide (xF x<0))=true
     ·rw[if_pos h3];exact(by decide:(11:Int)≠0)
     ·rw[if_neg h3];exact(we f (cj q (xF x)) (j+1) (by omega)).mono
def NZ(r:(List UInt8×Nat)⊕Int)(x:aa×Int×ak):Prop:=match r with
 |.inl r=>x.1=⟨4,0,⟨r.1⟩,[]⟩/\x.2.1=0/\x.2.2.at_=(r.2:Int)
 |.inr e=>x.2.1=e
theorem VV(hb:b.length<1048576)(u:Bool)(k:Nat)(hk:k<=b.length):∃x,eR ⟨⟨u,true,⟨[]⟩⟩,b,(k:Int),last⟩=some x/\NZ (HP b last (b.length+1) ([],-1) k) x:=by
 have bz:room=140737488355328:=rfl
 generalize hT:HP b last (b.length+1) ([],-1) k=T
 unfold eR
 refine dn (fun(s:Int×ak)=>∃(j f:Nat)(u:Bool)(o:List UInt8),s.2=⟨⟨u,true,⟨o⟩⟩,b,(j:Int),last⟩/\j<=b.length/\b.length -j+1<=f/\Hq (o,s.1) j/\HP b last f (o,s.1) j=T) (fun s=>b.length -s.2.at_.toNat) (NZ T) ⟨k,b.length+1,u,[],rfl,hk,by omega,⟨Nat.zero_le _,by show(-1:Int)<=-1;decide,by show(-1:Int)<=15;decide⟩,hT⟩ (by show b.length -_<_;omega) ?_
 rintro⟨h,o2⟩ ⟨j,f,u,o,e,hj,hf,hq,hs⟩
 have e:o2=⟨⟨u,true,⟨o⟩⟩,b,(j:Int),last⟩:=e
 subst e
 obtain⟨f,rfl⟩:∃g,f=g+1:=⟨f -1,by omega⟩
 obtain⟨q1,q2,q3⟩:=hq
 have q1:o.length<=j:=q1
 have q2:-1<=h:=q2
 have q3:h<=15:=q3
 rw[HP]at hs
 cases hx:b[j]? with
 |none=>
  rw[hx]at hs
  refine⟨_,ah (pR hx) (al rfl (ah (L8 ..) rfl)),?_⟩
  show NZ T _
  rw[<-hs]
  exact rfl
 |some x=>
  obtain⟨hl,hi⟩:=a8 hx
  rw[hx]at hs
  simp only at hs
  have hw:=iX (n:=j) (by omega)
  have hm:b.length -(ao ((j:Int)+1)).toNat<b.length -(j:Int).toNat:=by rw[hw];omega
  by_cases h62:((x.toNat:Int)==62)=true
  ·rw[if_pos h62]at hs
   by_cases hh:h>=0
   ·refine⟨_,ah (dM hx) (ae nT (ah (yj x) (aN (al (by rw[h62];simpa using hh) (ah (Dv _ (by omega)) (ah (UW (by simp;omega)) rfl))) rfl))),?_⟩
    show NZ T _
    rw[<-hs]
    exact⟨by show(⟨4,0,_,_⟩:aa)=_;unfold qH;rw[if_pos hh],rfl,hw⟩
   ·refine⟨_,ah (dM hx) (ae nT (ah (yj x) (aN (ae (by rw[h62];simpa using hh) (al h62 (ah (UW (by omega)) rfl))) rfl))),?_⟩
    show NZ T _
    rw[<-hs]
    exact⟨by show(⟨4,0,_,_⟩:aa)=_;unfold qH;rw[if_neg hh],rfl,hw⟩
  ·rw[if_neg h62]at hs
   have n62:¬((((x.toNat:Int)==62)&&(decide (h>=0)))=true):=by
    have:((x.toNat:Int)==62)=false:=by simpa using h62
    rw[this];simp
   by_cases hsp:Es x=true
   ·rw[if_pos hsp]at hs
    refine⟨_,ah (dM hx) (ae nT (ah (yj x) (aN (ae n62 (ae h62 (ah (rY x) (al hsp rfl)))) rfl))),⟨j+1,f,u,o,?_,by omega,by omega,⟨by show o.length<=j+1;omega,q2,q3⟩,hs⟩,hm⟩
    show(⟨_,b,ao ((j:Int)+1),last⟩:ak)=_
    rw[hw]
   ·rw[if_neg hsp]at hs
    by_cases hn:(decide (xF x<0))=true
    ·rw[if_pos hn]at hs
     refine⟨_,ah (dM hx) (ae nT (ah (yj x) (aN (ae n62 (ae h62 (ah (rY x) (ae hsp (al hn rfl))))) rfl))),?_⟩
     show NZ T _
     rw[<-hs]
     exact rfl
    ·rw[if_neg hn]at hs
     have hx2:=Gn x
     by_cases hh:h<0
     ·refine⟨_,ah (dM hx) (ae nT (ah (yj x) (aN (ae n62 (ae h62 (ah (rY x) (ae hsp (ae hn (al (by simpa using hh) rfl)))))) rfl))),⟨j+1,f,u,o,?_,by omega,by omega,⟨by show o.length<=j+1;omega,hx2.1,hx2.2⟩,?_⟩,hm⟩
      ·show(⟨_,b,ao ((j:Int)+1),last⟩:ak)=_
       rw[hw]
      ·unfold cj at hs
       rw[if_pos (show(o,h).2<0 from hh)]at hs
       exact hs
     ·refine⟨_,ah (dM hx) (ae nT (ah (yj x) (aN (ae n62 (ae h62 (ah (rY x) (ae hsp (ae hn (ae (by simpa using hh) (ah (Dv _ (by omega)) rfl))))))) rfl))),⟨j+1,f,true,o++[oq (ao (ao (16*h)+xF x))],?_,by omega,by omega,⟨?_,by show(-1:Int)<=-1;decide,by show(-1:Int)<=15;decide⟩,?_⟩,hm⟩
      ·show(⟨_,b,ao ((j:Int)+1),last⟩:ak)=_
       rw[hw]
      ·show(o++_).length<=j+1
       simp;omega
      ·unfold cj at hs
       rw[if_neg (show¬(o,h).2<0 from hh)]at hs
       exact hs
end
def Hf(ds:List Int)(m:Nat):List UInt8×Int:=(ds.take (2*m)).foldl cj ([],-1)
theorem xh{ds:List Int}(hd:∀d∈ds,0<=d/\d<=15):∀m,(h:2*m<=ds.length)->(Hf ds m).2=-1/\(Hf ds m).1.length=m/\∀h2:2*m+1<ds.length,Hf ds (m+1)=((Hf ds m).1++[oq (ao (ao (16*ds[2*m])+ds[2*m+1]))],-1)
 |m,h=>by
  have h0:(Hf ds m).2=-1/\(Hf ds m).1.length=m:=by
   cases m with
   |zero=>exact⟨rfl,rfl⟩
   |succ m=>
    obtain⟨a1,a2,a3⟩:=xh hd m (by omega)
    rw[a3 (by omega)]
    exact⟨rfl,by simp[a2]⟩
  refine⟨h0.1,h0.2,fun h2=>?_⟩
  have e:ds.take (2*(m+1))=ds.take (2*m)++[ds[2*m]]++[ds[2*m+1]]:=by rw[show 2*(m+1)=2*m+1+1 by omega,List.take_succ_eq_append_getElem h2,List.take_succ_eq_append_getElem (by omega)]
  have hd0:=(hd _ (List.getElem_mem (show 2*m<ds.length by omega))).1
  show(ds.take (2*(m+1))).foldl cj ([],-1)=_
  rw[e,List.foldl_append,List.foldl_append]
  show cj (cj (Hf ds m) ds[2*m]) ds[2*m+1]=_
  have e1:cj (Hf ds m) ds[2*m]=((Hf ds m).1,ds[2*m]):=by unfold cj;rw[if_pos (by rw[h0.1];decide)]
  rw[e1]
  exact if_neg (by show¬ds[2*m]<0;omega)
theorem Fh{ds:List Int}(hd:∀d∈ds,0<=d/\d<=15)(m:Nat)(hm:ds.length=2*m)(hl:m<=1048576){body:List UInt8×Int->Option ((List UInt8×Int)⊕List UInt8)}
 (hb:∀(out:List UInt8)(k:Int),body (out,k)=if decide (k<(ds.length:Int))then aH (0<=k/\k<ds.length)<|aH (0<=ao (k+1)/\ao (k+1)<ds.length)<|aH ((out.length+[oq (ao ((ao (16*(ix ds k)))+(ix ds (ao (k+1)))))].length)*1<=room)<|some (.inl (out++[oq (ao ((ao (16*(ix ds k)))+(ix ds (ao (k+1)))))],ao (k+2)))else some (.inr out)):
 iter body ([],0)=some (Hf ds m).1:=by
 have bz:room=140737488355328:=rfl
 refine gD m (fun i=>((Hf ds i).1,((2*i:Nat):Int))) rfl (by omega) (fun i hi=>?_) ?_
 ·obtain⟨_,a2,a3⟩:=xh hd i (by omega)
  have h2:2*i+1<ds.length:=by omega
  have w1:ao (((2*i:Nat):Int)+1)=((2*i+1:Nat):Int):=iX (by omega)
  have w2:ao (((2*i:Nat):Int)+2)=((2*(i+1):Nat):Int):=by rw[au (by omega) (by omega)];omega
  rw[hb,a3 h2,w1,w2,jZ h2,jZ (show 2*i<ds.length by omega)]
  exact al (by simp;omega) (af (by omega) (af (by omega) (af (by simp;omega) rfl)))
 ·rw[hb]
  exact ae (by simp;omega) rfl
theorem IT{ds:List Int}(hd:∀d∈ds,0<=d/\d<=15):∀m,ds.length=2*m->ds.foldl cj ([],-1)=Hf ds m:=fun m h=>by unfold Hf;rw[<-h,List.take_length]
section
variable{b:List UInt8}{last:Bool}
def Uy(r:(List UInt8×Nat)⊕Int)(x:List UInt8×Int×Int):Prop:=match r with
 |.inl r=>x=(r.1,(r.2:Int),0)
 |.inr e=>x.2.2=e
theorem Qn(hb:b.length<1048576)(k:Nat)(hk:k<=b.length):∃x,gW b (k:Int) last=some x/\Uy (HP b last (b.length+1) ([],-1) k) x:=by
 have bz:room=140737488355328:=rfl
 generalize hT:HP b last (b.length+1) ([],-1) k=T
 unfold gW
 refine uN (fun z=>(z=.inl ()/\T=.inr (nk last))\/∃x,z=.inr x/\Uy T x) (pK (fun z=>(z=.inl ()/\T=.inr (nk last))\/∃x,z=.inr x/\Uy T x) (dn (fun(s:Int×List Int)=>∃(j f:Nat),s.1=(j:Int)/\j<=b.length/\b.length -j+1<=f/\(∀d∈s.2,0<=d/\d<=15)/\s.2.length<=j/\HP b last f (s.2.foldl cj ([],-1)) j=T) (fun s=>b.length -s.1.toNat) (fun(o:Unit⊕(List UInt8×Int×Int))=>(o=.inl ()/\T=.inr (nk last))\/∃x,o=.inr x/\Uy T x)
  ⟨k,b.length+1,rfl,hk,by omega,fun d h=>(by cases h),Nat.zero_le _,hT⟩ (by show b.length -_<_;omega) (by
    rintro⟨a,ds⟩ ⟨j,f,e,hj,hf,hd,hl,hs⟩
    have e:a=(j:Int):=e
    subst e
    have hd:∀d∈ds,0<=d/\d<=15:=hd
    have hl:ds.length<=j:=hl
    obtain⟨f,rfl⟩:∃g,f=g+1:=⟨f -1,by omega⟩
    have hs:HP b last (f+1) (ds.foldl cj ([],-1)) j=T:=hs
    rw[HP]at hs
    cases hx:b[j]? with
    |none=>
     have:=c5 hx
     rw[hx]at hs
     exact⟨_,ae (by simp;omega) rfl,.inl ⟨rfl,hs.symm⟩⟩
    |some x=>
     obtain⟨hl2,hi⟩:=a8 hx
     rw[hx]at hs
     simp only at hs
     have hw:=iX (n:=j) (by omega)
     have hm:b.length -(ao ((j:Int)+1)).toNat<b.length -(j:Int).toNat:=by rw[hw];omega
     by_cases h62:((x.toNat:Int)==62)=true
     ·rw[if_pos h62]at hs
      have hp:Int.tmod ((ds.length:Nat):Int) 2=((ds.length % 2:Nat):Int):=rfl
      by_cases hodd:ds.length % 2=1
      ·obtain⟨m,hm2⟩:∃m,ds.length=2*m+1:=⟨ds.length/2,by omega⟩
       have hd2:∀d∈ds++[0],0<=d/\d<=15:=fun d h=>by
        rcases List.mem_append.1 h with h|h
        ·exact hd d h
        ·rw[List.mem_singleton.1 h];decide
       refine⟨_,al (by simp;omega) (af (by omega) (aN (al (by rw[hi];exact h62) (eu (al (by show(Int.tmod (ds.length:Int) 2==1)=true;rw[hp,hodd];rfl) (af (by simp;omega) rfl)) (eu (Fh hd2 (m+1) (by simp;omega) (by omega) (fun _ _=>rfl)) rfl))) rfl)),.inr ⟨_,rfl,?_⟩⟩
       rw[<-hs]
       show _=_
       rw[hw]
       have e1:=IT hd2 (m+1) (by simp;omega)
       rw[List.foldl_append]at e1
       obtain⟨a1,a2,a3⟩:=xh hd m (by omega)
       have e2:ds.foldl cj ([],-1)=((Hf ds m).1,ds[2*m]'(by omega)):=by
        have:ds=ds.take (2*m)++[ds[2*m]'(by omega)]:=by rw[<-List.take_succ_eq_append_getElem,<-hm2,List.take_length]
        conv=>lhs;rw[this,List.foldl_append]
        show cj (Hf ds m) _=_
        unfold cj
        rw[if_pos (by rw[a1];decide)]
       have hdm:=hd _ (List.getElem_mem (show 2*m<ds.length by omega))
       rw[e2]at e1⊢
       rw[<-e1]
       have e3:(cj ((Hf ds m).1,ds[2*m]'(by omega)) 0).1=qH ((Hf ds m).1,ds[2*m]'(by omega)):=by
        unfold cj qH
        rw[if_neg (by show¬ds[2*m]<0;omega),if_pos (by show ds[2*m]>=0;omega)]
        show _++[oq (ao (ao (16*ds[2*m])+0))]=_
        rw[Int.add_zero,au (n:=ao (16*ds[2*m])) (by rw[au (by omega) (by omega)];omega) (by rw[au (by omega) (by omega)];omega)]
       show((cj _ 0).1,_)=_
       rw[e3]
      ·obtain⟨m,hm2⟩:∃m,ds.length=2*m:=⟨ds.length/2,by omega⟩
       refine⟨_,al (by simp;omega) (af (by omega) (aN (al (by rw[hi];exact h62) (eu (ae (by show¬(Int.tmod (ds.length:Int) 2==1)=true;rw[hp,show ds.length % 2=0 by omega];decide) rfl) (eu (Fh hd m hm2 (by omega) (fun _ _=>rfl)) rfl))) rfl)),.inr ⟨_,rfl,?_⟩⟩
       rw[<-hs]
       show _=_
       rw[hw,IT hd m hm2]
       obtain⟨a1,a2,a3⟩:=xh hd m (by omega)
       have e3:qH (Hf ds m)=(Hf ds m).1:=by unfold qH;rw[if_neg (by rw[a1];decide)]
       rw[e3]
     ·rw[if_neg h62]at hs
      by_cases hsp:Es x=true
      ·rw[if_pos hsp]at hs
       exact⟨_,al (by simp;omega) (af (by omega) (aN (ae (by rw[hi];exact h62) rfl) (ah (oc _) (al (by rw[hi];exact hsp) rfl)))),⟨j+1,f,hw,by omega,by omega,hd,by show ds.length<=_;omega,hs⟩,hm⟩
      ·rw[if_neg hsp]at hs
       by_cases hn:(decide (xF x<0))=true
       ·rw[if_pos hn]at hs
        exact⟨_,al (by simp;omega) (af (by omega) (aN (ae (by rw[hi];exact h62) rfl) (ah (oc _) (ae (by rw[hi];exact hsp) (ah (Ee _) (al (by rw[hi];exact hn) rfl)))))),.inr ⟨_,rfl,by rw[<-hs];exact rfl⟩⟩
       ·rw[if_neg hn]at hs
        have hx2:=Gn x
        have hn0:¬xF x<0:=by simpa using hn
        refine⟨_,al (by simp;omega) (af (by omega) (aN (ae (by rw[hi];exact h62) rfl) (ah (oc _) (ae (by rw[hi];exact hsp) (ah (Ee _) (ae (by rw[hi];exact hn) (ah (Ee _) (af (by simp;omega) rfl)))))))),⟨j+1,f,hw,by omega,by omega,fun d h=>?_,by show(ds++_).length<=_;simp;omega,?_⟩,hm⟩
        ·rcases List.mem_append.1 h with h|h
         ·exact hd d h
         ·rw[List.mem_singleton.1 h,hi];omega
        ·show HP b last f ((ds++[xF (ix b (j:Int))]).foldl cj ([],-1)) (j+1)=T
         rw[List.foldl_append,hi]
         exact hs)) ?_) ?_
 ·rintro z (⟨rfl,h⟩|⟨x,rfl,hx⟩)
  ·exact⟨_,rfl,.inl ⟨rfl,h⟩⟩
  ·exact⟨_,rfl,.inr ⟨x,rfl,hx⟩⟩
 ·rintro z (⟨rfl,rfl⟩|⟨x,rfl,hx⟩)
  ·exact⟨_,ah (WY last) rfl,rfl⟩
  ·exact⟨x,rfl,hx⟩
end
section
variable(b:List UInt8)(last:Bool)
def qQ:Nat->Int->Nat->Int×Nat×Bool
 |0,n,j=>(n,j,false)
 |k+1,n,j=>match b[j]? with
  |none=>(n,j,true)
  |some d=>if(decide ((d.toNat:Int)<48))||(decide ((d.toNat:Int)>55))then(n,j,false)else qQ k (8*n+((d.toNat:Int) -48)) (j+1)
def Q8(j:Nat):(List UInt8×Nat)⊕Int:=match b[j]? with
 |none=>.inr (nk last)
 |some c=>
  if(c.toNat:Int)==110 then .inl ([10],j+1)else if(c.toNat:Int)==114 then .inl ([13],j+1)else if(c.toNat:Int)==116 then .inl ([9],j+1)
  else if(c.toNat:Int)==98 then .inl ([8],j+1)else if(c.toNat:Int)==102 then .inl ([12],j+1)else if(c.toNat:Int)==10 then .inl ([],j+1)
  else if(c.toNat:Int)==13 then(match b[j+1]? with
   |none=>if last then .inl ([],j+1)else .inr 6
   |some d=>if(d.toNat:Int)==10 then .inl ([],j+2)else .inl ([],j+1))
  else if(decide ((c.toNat:Int)<48))||(decide ((c.toNat:Int)>55))then .inl ([c],j+1)
  else if(qQ b 2 ((c.toNat:Int) -48) (j+1)).2.2&&!last then .inr 6 else .inl ([oq (qQ b 2 ((c.toNat:Int) -48) (j+1)).1],(qQ b 2 ((c.toNat:Int) -48) (j+1)).2.1)
def zl:Nat->Int->List UInt8->Nat->(List UInt8×Nat)⊕Int
 |0,_,_,_=>.inr (nk last)
 |f+1,deep,out,j=>match b[j]? with
  |none=>.inr (nk last)
  |some c=>
   if(c.toNat:Int)==92 then(match Q8 b last (j+1)with
    |.inr e=>.inr e
    |.inl (x,j')=>zl f deep (out++x) j')
   else if(c.toNat:Int)==13 then(match b[j+1]? with
    |none=>if last then zl f deep (out++[10]) (j+1)else .inr 6
    |some d=>if(d.toNat:Int)==10 then zl f deep (out++[10]) (j+2)else zl f deep (out++[10]) (j+1))
   else if(c.toNat:Int)==40 then zl f (deep+1) (out++[c]) (j+1)
   else if(c.toNat:Int)==41 then(if deep -1==0 then .inl (out,j+1)else zl f (deep -1) (out++[c]) (j+1))
   else zl f deep (out++[c]) (j+1)
variable{b last}
theorem GZ:∀(k:Nat)(n:Int)(j:Nat),j<=b.length->j<=(qQ b k n j).2.1/\(qQ b k n j).2.1<=b.length/\(qQ b k n j).2.1<=j+k/\((qQ b k n j).2.2=true->(qQ b k n j).2.1=b.length/\(qQ b k n j).2.1<j+k)
 |0,n,j,h=>⟨Nat.le_refl _,h,Nat.le_refl _,fun e=>(by cases e)⟩
 |k+1,n,j,h=>by
  rw[qQ]
  cases hx:b[j]? with
  |none=>
   have:=c5 hx
   exact⟨Nat.le_refl _,h,by show j<=_;omega,fun _=>⟨by show j=_;omega,by show j<_;omega⟩⟩
  |some d=>
   have hl:=(a8 hx).1
   simp only
   split
   ·exact⟨Nat.le_refl _,h,by show j<=_;omega,fun e=>(by cases e)⟩
   ·have:=GZ k (8*n+((d.toNat:Int) -48)) (j+1) (by omega)
    refine⟨by omega,by omega,by omega,fun e=>?_⟩
    have:=this.2.2.2 e
    omega
def okE(j n:Nat)(last:Bool):(List UInt8×Nat)⊕Int->Prop
 |.inl r=>j<r.2/\r.2<=n/\r.1.length<=1
 |.inr e=>e=nk last
theorem l9{j n:Nat}{last:Bool}{c:Prop}[Decidable c]{x y:(List UInt8×Nat)⊕Int}(h1:okE j n last x)(h2:¬c->okE j n last y):okE j n last (if c then x else y):=by
 split
 ·exact h1
 ·rename_i h;exact h2 h
theorem Gc(j:Nat)(h:j<=b.length):okE j b.length last (Q8 b last j):=by
 unfold Q8
 cases hx:b[j]? with
 |none=>exact rfl
 |some c=>
  have hl:=(a8 hx).1
  have k1:∀x:List UInt8,x.length<=1->okE j b.length last (.inl (x,j+1)):=fun x hx=>⟨by show j<j+1;omega,by show j+1<=_;omega,hx⟩
  refine l9 (k1 _ (by decide)) fun _=>l9 (k1 _ (by decide)) fun _=>l9 (k1 _ (by decide)) fun _=>l9 (k1 _ (by decide)) fun _=>l9 (k1 _ (by decide)) fun _=>l9 (k1 _ (by decide)) fun _=>l9 ?_ fun _=>l9 (k1 _ (by simp)) fun _=>?_
  ·cases hy:b[j+1]? with
   |none=>
    cases last with
    |true=>exact⟨by show j<j+1;omega,by show j+1<=_;omega,Nat.zero_le _⟩
    |false=>exact rfl
   |some d=>
    have hl2:=(a8 hy).1
    exact l9 ⟨by show j<j+2;omega,by show j+2<=_;omega,Nat.zero_le _⟩ fun _=>k1 _ (by decide)
  ·have:=GZ (b:=b) 2 ((c.toNat:Int) -48) (j+1) (by omega)
   by_cases h1:((qQ b 2 ((c.toNat:Int) -48) (j+1)).2.2&&!last)=true
   ·rw[if_pos h1]
    have:last=false:=by
     rw[Bool.and_eq_true]at h1
     simpa using h1.2
    rw[this];exact rfl
   ·rw[if_neg h1]
    exact⟨by show j<(qQ b 2 ((c.toNat:Int) -48) (j+1)).2.1;omega,this.2.1,by simp⟩
theorem RT(c:UInt8):(decide (Lib.indexByte [110,114,116,98,102] c>=0))=(((c.toNat:Int)==110)||(((c.toNat:Int)==114)||(((c.toNat:Int)==116)||(((c.toNat:Int)==98)||((c.toNat:Int)==102))))):=of_decide_eq_true (iL (fun c=>decide ((decide (Lib.indexByte [110,114,116,98,102] c>=0))=(((c.toNat:Int)==110)||(((c.toNat:Int)==114)||(((c.toNat:Int)==116)||(((c.toNat:Int)==98)||((c.toNat:Int)==102))))))) (by kernel_rfl) c)
theorem VW(hb:b.length<1048576){u:Bool}{o:List UInt8}(ho:o.length<1048576)(c:UInt8)(hc:48<=(c.toNat:Int)/\(c.toNat:Int)<=55)(j:Nat)(hj:j<=b.length):
 ∃x,eS ⟨⟨u,true,⟨o⟩⟩,b,(j:Int),last⟩ c=some x/\(if(qQ b 2 ((c.toNat:Int) -48) j).2.2&&!last then x.1=false/\x.2.aB=last else x=(true,⟨⟨true,true,⟨o++[oq (qQ b 2 ((c.toNat:Int) -48) j).1]⟩⟩,b,((qQ b 2 ((c.toNat:Int) -48) j).2.1:Int),last⟩)):=by
 have bz:room=140737488355328:=rfl
 have e0:ao (((oq ((c.toNat:Int) -48)).toNat:Int))=(c.toNat:Int) -48:=by
  have:=of_decide_eq_true (iL (fun c=>decide (48<=(c.toNat:Int)->ao (((oq ((c.toNat:Int) -48)).toNat:Int))=(c.toNat:Int) -48)) (by kernel_rfl) c)
  exact this hc.1
 have dig:∀d:UInt8,¬(((decide ((d.toNat:Int)<48))||(decide ((d.toNat:Int)>55)))=true)->48<=(d.toNat:Int)/\(d.toNat:Int)<=55/\ao (((oq ((d.toNat:Int) -48)).toNat:Int))=(d.toNat:Int) -48:=fun d h=>by
  have h1:48<=(d.toNat:Int)/\(d.toNat:Int)<=55:=by simp at h;omega
  exact⟨h1.1,h1.2,of_decide_eq_true (iL (fun c=>decide (48<=(c.toNat:Int)->ao (((oq ((c.toNat:Int) -48)).toNat:Int))=(c.toNat:Int) -48)) (by kernel_rfl) d) h1.1⟩
 generalize hT:qQ b 2 ((c.toNat:Int) -48) j=T
 unfold eS
 rw[e0]
 refine uN (fun(r:(Int×ak)⊕(Bool×ak))=>(r=.inl (T.1,⟨⟨u,true,⟨o⟩⟩,b,(T.2.1:Int),last⟩)/\T.2.2=false)\/(T.2.2=true/\(if last then r=.inr (true,⟨⟨true,true,⟨o++[oq T.1]⟩⟩,b,(T.2.1:Int),last⟩)else∃x,r=.inr (false,x)/\x.aB=last))) (pK (fun(r:(Int×ak)⊕(Bool×ak))=>(r=.inl (T.1,⟨⟨u,true,⟨o⟩⟩,b,(T.2.1:Int),last⟩)/\T.2.2=false)\/(T.2.2=true/\(if last then r=.inr (true,⟨⟨true,true,⟨o++[oq T.1]⟩⟩,b,(T.2.1:Int),last⟩)else∃x,r=.inr (false,x)/\x.aB=last))) (dn (fun(s:Int×Int×ak)=>∃(i k:Nat),s.2.2=⟨⟨u,true,⟨o⟩⟩,b,(i:Int),last⟩/\i<=b.length/\k<=2/\s.2.1=2 -(k:Int)/\0<=s.1/\s.1<=511/\s.1<8^(3 -k)/\qQ b k s.1 i=T) (fun s=>(2 -s.2.1).toNat)
  (fun(r:(Int×ak)⊕(Bool×ak))=>(r=.inl (T.1,⟨⟨u,true,⟨o⟩⟩,b,(T.2.1:Int),last⟩)/\T.2.2=false)\/(T.2.2=true/\(if last then r=.inr (true,⟨⟨true,true,⟨o++[oq T.1]⟩⟩,b,(T.2.1:Int),last⟩)else∃x,r=.inr (false,x)/\x.aB=last)))
  ⟨j,2,rfl,hj,Nat.le_refl _,rfl,by show 0<=(c.toNat:Int) -48;omega,by show(c.toNat:Int) -48<=511;omega,by show(c.toNat:Int) -48<8;omega,hT⟩ (by show(2 -(0:Int)).toNat<_;decide) (by
    rintro⟨n,q,o7⟩ ⟨i,k,e,hi,hk,eq,n0,n1,n2,hs⟩
    have e:o7=⟨⟨u,true,⟨o⟩⟩,b,(i:Int),last⟩:=e
    have eq:q=2 -(k:Int):=eq
    subst e;subst eq
    have n0:0<=n:=n0
    have n1:n<=511:=n1
    have hs:qQ b k n i=T:=hs
    cases k with
    |zero=>
     rw[qQ]at hs
     subst hs
     exact⟨_,ae (by simp) rfl,.inl ⟨rfl,rfl⟩⟩
    |succ k=>
     rw[qQ]at hs
     have hlt:(decide (2 -((k+1:Nat):Int)<2))=true:=by simp;omega
     cases hx:b[i]? with
     |none=>
      rw[hx]at hs
      subst hs
      cases last with
      |true=>exact⟨_,al hlt (ah (pR hx) (al rfl (al rfl (ah (Dv _ (by omega)) rfl)))),.inr ⟨rfl,by rw[if_pos rfl];rfl⟩⟩
      |false=>exact⟨_,al hlt (ah (pR hx) (al rfl (ae nF rfl))),.inr ⟨rfl,by rw[if_neg (by decide)];exact⟨_,rfl,rfl⟩⟩⟩
     |some d=>
      obtain⟨hl,_⟩:=a8 hx
      rw[hx]at hs
      simp only at hs
      by_cases hd:((decide ((d.toNat:Int)<48))||(decide ((d.toNat:Int)>55)))=true
      ·rw[if_pos hd]at hs
       subst hs
       exact⟨_,al hlt (ah (dM hx) (ae nT (al hd rfl))),.inl ⟨rfl,rfl⟩⟩
      ·rw[if_neg hd]at hs
       obtain⟨d1,d2,d3⟩:=dig d hd
       have hw:=iX (n:=i) (by omega)
       have n2:n<8^(3 -(k+1)):=n2
       have hp:n<64/\8*n+((d.toNat:Int) -48)<8^(3 -k):=by
        rcases(show k=0\/k=1 by omega)with rfl|rfl
        ·have:n<64:=n2
         exact⟨this,by show _<(512:Int);omega⟩
        ·have:n<8:=n2
         exact⟨by omega,by show _<(64:Int);omega⟩
       have w8:ao ((ao (8*n))+(ao (((oq ((d.toNat:Int) -48)).toNat:Int))))=8*n+((d.toNat:Int) -48):=by rw[d3,au (n:=8*n) (by omega) (by omega),au (by omega) (by omega)]
       have wk:ao (2 -((k+1:Nat):Int)+1)=2 -(k:Int):=by rw[au (by omega) (by omega)];omega
       refine⟨_,al hlt (ah (dM hx) (ae nT (ae hd rfl))),⟨i+1,k,?_,by omega,by omega,wk,by show 0<=ao _;rw[w8];omega,by show ao _<=511;rw[w8];omega,by show ao _<_;rw[w8];exact hp.2,by show qQ b k (ao _) (i+1)=T;rw[w8];exact hs⟩,?_⟩
       ·show(⟨_,b,ao ((i:Int)+1),last⟩:ak)=_
        rw[hw]
       ·show(2 -ao _).toNat<(2 -(2 -((k+1:Nat):Int))).toNat
        rw[wk];omega)) ?_) ?_
 ·rintro z (⟨rfl,h2⟩|⟨h2,h3⟩)
  ·exact⟨_,rfl,.inl ⟨rfl,h2⟩⟩
  ·cases last with
   |true=>
    rw[if_pos rfl]at h3
    subst h3
    exact⟨_,rfl,.inr ⟨h2,by rw[if_pos rfl]⟩⟩
   |false=>
    rw[if_neg nF]at h3
    obtain⟨x,rfl,hx⟩:=h3
    exact⟨_,rfl,.inr ⟨h2,by rw[if_neg nF];exact⟨x,rfl,hx⟩⟩⟩
 ·rintro z (⟨rfl,h2⟩|⟨h2,h3⟩)
  ·refine⟨_,ah (Dv _ (by omega)) rfl,?_⟩
   rw[h2,Bool.false_and,if_neg nF]
  ·cases last with
   |true=>
    rw[if_pos rfl]at h3
    subst h3
    refine⟨_,rfl,?_⟩
    rw[h2,Bool.not_true,Bool.and_false,if_neg nF]
   |false=>
    rw[if_neg nF]at h3
    obtain⟨x,rfl,hx⟩:=h3
    refine⟨_,rfl,?_⟩
    rw[h2,Bool.not_false,Bool.and_true,if_pos rfl]
    exact⟨rfl,hx⟩
end
section
variable{b:List UInt8}{last:Bool}
theorem T6(u:Bool)(o:List UInt8)(hb:b.length<1048576)(c:UInt8)(hc:((c.toNat:Int)==13)=true)(j:Nat)(hj:j<=b.length):
 cy ⟨⟨u,true,⟨o⟩⟩,b,(j:Int),last⟩ c=some (match b[j]? with
  |none=>(last,⟨⟨u,true,⟨o⟩⟩,b,(j:Int),last⟩)
  |some d=>(true,⟨⟨u,true,⟨o⟩⟩,b,if(d.toNat:Int)==10 then((j+1:Nat):Int)else(j:Int),last⟩)):=by
 unfold cy
 refine ae (by have:(c.toNat:Int)=13:=by simpa using hc
               rw[this];decide) ?_
 cases hx:b[j]? with
 |none=>exact ah (pR hx) (eu (ae (by decide) rfl) rfl)
 |some d=>
  have hl:=(a8 hx).1
  by_cases hd:((d.toNat:Int)==10)=true
  ·simp only[hd,if_true]
   refine ah (dM hx) (eu (al (by rw[hd];rfl) rfl) ?_)
   show some (true,(⟨_,b,ao ((j:Int)+1),last⟩:ak))=_
   rw[iX (by omega)]
  ·simp only[hd]
   exact ah (dM hx) (eu (ae (by simpa using hd) rfl) rfl)
theorem I7(hb:b.length<1048576){u:Bool}{o:List UInt8}(ho:o.length<1048576)(j:Nat){c y:UInt8}{i:Int}(hx:b[j]? =some c)(e:Lib.indexByte [110,114,116,98,102] c=i)(h0:0<=i/\i<5)(hy:ix ([10,13,9,8,12]:List UInt8) i=y):
 b5 ⟨⟨u,true,⟨o⟩⟩,b,(j:Int),last⟩=some (true,⟨⟨true,true,⟨o++[y]⟩⟩,b,((j+1:Nat):Int),last⟩):=by
 have bz:room=140737488355328:=rfl
 have hl:=(a8 hx).1
 unfold b5
 refine ah (dM hx) (ae nT (ah (show cG _ c=some i by rw[<-e];rfl) (al (by simpa using h0.1) (af h0 (ah (Dv _ (by omega)) ?_)))))
 show some (true,(⟨⟨true,true,⟨o++[ix ([10,13,9,8,12]:List UInt8) i]⟩⟩,b,ao ((j:Int)+1),last⟩:ak))=_
 rw[iX (by omega),hy]
theorem zS{c:UInt8}{n:Nat}(hn:n<256)(h:((c.toNat:Int)==(n:Int))=true):c=UInt8.ofNat n:=by
 have h:(c.toNat:Int)=(n:Int):=by simpa using h
 have h:c.toNat=n:=by omega
 rw[<-h];simp
def leR(b:List UInt8)(last:Bool)(o:List UInt8)(r:(List UInt8×Nat)⊕Int)(x:Bool×ak):Prop:=match r with
 |.inr _=>x.1=false/\x.2.aB=last
 |.inl r=>∃u',x=(true,⟨⟨u',true,⟨o++r.1⟩⟩,b,(r.2:Int),last⟩)
theorem Se(hb:b.length<1048576){u:Bool}{o:List UInt8}(ho:o.length<1048576)(j:Nat)(hj:j<=b.length):
 ∃x,b5 ⟨⟨u,true,⟨o⟩⟩,b,(j:Int),last⟩=some x/\leR b last o (Q8 b last j) x:=by
 have bz:room=140737488355328:=rfl
 unfold Q8
 cases hx:b[j]? with
 |none=>
  unfold b5
  exact⟨_,ah (pR hx) (al rfl rfl),rfl,rfl⟩
 |some c=>
  obtain⟨hl,_⟩:=a8 hx
  have hw:=iX (n:=j) (by omega)
  have DL:=RT c
  simp only
  by_cases n1:((c.toNat:Int)==110)=true
  ·rw[if_pos n1]
   obtain rfl:c=110:=zS (n:=110) (by decide) n1
   exact⟨_,I7 hb ho j hx (i:=0) rfl (by decide) rfl,true,rfl⟩
  rw[if_neg n1]
  by_cases n2:((c.toNat:Int)==114)=true
  ·rw[if_pos n2]
   obtain rfl:c=114:=zS (n:=114) (by decide) n2
   exact⟨_,I7 hb ho j hx (i:=1) rfl (by decide) rfl,true,rfl⟩
  rw[if_neg n2]
  by_cases n3:((c.toNat:Int)==116)=true
  ·rw[if_pos n3]
   obtain rfl:c=116:=zS (n:=116) (by decide) n3
   exact⟨_,I7 hb ho j hx (i:=2) rfl (by decide) rfl,true,rfl⟩
  rw[if_neg n3]
  by_cases n4:((c.toNat:Int)==98)=true
  ·rw[if_pos n4]
   obtain rfl:c=98:=zS (n:=98) (by decide) n4
   exact⟨_,I7 hb ho j hx (i:=3) rfl (by decide) rfl,true,rfl⟩
  rw[if_neg n4]
  by_cases n5:((c.toNat:Int)==102)=true
  ·rw[if_pos n5]
   obtain rfl:c=102:=zS (n:=102) (by decide) n5
   exact⟨_,I7 hb ho j hx (i:=4) rfl (by decide) rfl,true,rfl⟩
  rw[if_neg n5]
  have hi:¬(decide (Lib.indexByte [110,114,116,98,102] c>=0))=true:=by
   rw[DL]
   simp only[Bool.or_eq_true,not_or]
   exact⟨n1,n2,n3,n4,n5⟩
  have start:∀{r:Option (Bool×ak)},(if((decide ((c.toNat:Int)>=48))&&(decide ((c.toNat:Int)<=55)))=true then ba (eS ⟨⟨u,true,⟨o⟩⟩,b,((j+1:Nat):Int),last⟩ c) fun r4=>some (r4.1,r4.2)
   else if(((c.toNat:Int)==10)||((c.toNat:Int)==13))=true then ba (cy ⟨⟨u,true,⟨o⟩⟩,b,((j+1:Nat):Int),last⟩ c) fun r5=>some (r5.1,r5.2)
   else ba (aw ⟨u,true,⟨o⟩⟩ c) fun r6=>some (true,(⟨r6.2,b,((j+1:Nat):Int),last⟩:ak)))=r->b5 ⟨⟨u,true,⟨o⟩⟩,b,(j:Int),last⟩=r:=fun h=>by
   unfold b5
   refine ah (dM hx) (ae nT (ah (show cG _ c=some _ from rfl) (ae hi ?_)))
   rw[<-hw]at h
   exact h
  by_cases n10:((c.toNat:Int)==10)=true
  ·rw[if_pos n10]
   have hc:(c.toNat:Int)=10:=by simpa using n10
   refine⟨_,start (ae (by rw[hc];decide) (al (by rw[n10];rfl) (ah (al (by rw[hc];decide) rfl) rfl))),u,?_⟩
   show _=(true,(⟨⟨u,true,⟨o++[]⟩⟩,b,((j+1:Nat):Int),last⟩:ak))
   rw[List.append_nil]
  rw[if_neg n10]
  by_cases n13:((c.toNat:Int)==13)=true
  ·rw[if_pos n13]
   have hc:(c.toNat:Int)=13:=by simpa using n13
   refine⟨_,start (ae (by rw[hc];decide) (al (by rw[n13,Bool.or_true]) (ah (T6 u o hb c n13 (j+1) (by omega)) rfl))),?_⟩
   cases hy:b[j+1]? with
   |none=>
    cases last with
    |true=>exact⟨u,by show _=(true,(⟨⟨u,true,⟨o++[]⟩⟩,b,((j+1:Nat):Int),true⟩:ak));rw[List.append_nil]⟩
    |false=>exact⟨rfl,rfl⟩
   |some d=>
    simp only
    by_cases hd:((d.toNat:Int)==10)=true
    ·rw[if_pos hd,if_pos hd]
     exact⟨u,by show _=(true,(⟨⟨u,true,⟨o++[]⟩⟩,b,((j+2:Nat):Int),last⟩:ak));rw[List.append_nil]⟩
    ·rw[if_neg hd,if_neg hd]
     exact⟨u,by show _=(true,(⟨⟨u,true,⟨o++[]⟩⟩,b,((j+1:Nat):Int),last⟩:ak));rw[List.append_nil]⟩
  rw[if_neg n13]
  by_cases no:((decide ((c.toNat:Int)<48))||(decide ((c.toNat:Int)>55)))=true
  ·rw[if_pos no]
   exact⟨_,start (ae (by simp at no⊢;omega) (ae (by simp at n10 n13⊢;exact⟨n10,n13⟩) (ah (Dv _ (by omega)) rfl))),true,rfl⟩
  ·rw[if_neg no]
   have hc:48<=(c.toNat:Int)/\(c.toNat:Int)<=55:=by simp at no;omega
   obtain⟨x,h1,h2⟩:=VW (last:=last) hb (u:=u) ho c hc (j+1) (by omega)
   refine⟨x,start (al (by simp;omega) (ah h1 rfl)),?_⟩
   by_cases h:((qQ b 2 ((c.toNat:Int) -48) (j+1)).2.2&&!last)=true
   ·rw[if_pos h]at h2⊢
    exact h2
   ·rw[if_neg h]at h2⊢
    exact⟨true,h2⟩
theorem aao(hb:b.length<1048576)(u:Bool)(k:Nat)(hk:k<=b.length):∃x,fE ⟨⟨u,true,⟨[]⟩⟩,b,(k:Int),last⟩=some x/\NZ (zl b last (b.length+1) 1 [] k) x:=by
 have bz:room=140737488355328:=rfl
 generalize hT:zl b last (b.length+1) 1 [] k=T
 unfold fE
 refine dn (fun(s:Int×ak)=>∃(j f:Nat)(u:Bool)(o:List UInt8),s.2=⟨⟨u,true,⟨o⟩⟩,b,(j:Int),last⟩/\j<=b.length/\b.length -j+1<=f/\o.length<=j/\1<=s.1/\s.1<=(j:Int)+1/\zl b last f s.1 o j=T) (fun s=>b.length -s.2.at_.toNat) (NZ T) ⟨k,b.length+1,u,[],rfl,hk,by omega,Nat.zero_le _,by show(1:Int)<=1;decide,by show(1:Int)<=(k:Int)+1;omega,hT⟩ (by show b.length -_<_;omega) ?_
 rintro⟨deep,o2⟩ ⟨j,f,u,o,e,hj,hf,ho,d1,d2,hs⟩
 have e:o2=⟨⟨u,true,⟨o⟩⟩,b,(j:Int),last⟩:=e
 subst e
 have d1:1<=deep:=d1
 have d2:deep<=(j:Int)+1:=d2
 have hs:zl b last f deep o j=T:=hs
 obtain⟨f,rfl⟩:∃g,f=g+1:=⟨f -1,by omega⟩
 rw[zl]at hs
 cases hx:b[j]? with
 |none=>
  rw[hx]at hs
  refine⟨_,ah (pR hx) (al rfl (ah (L8 ..) rfl)),?_⟩
  show NZ T _
  rw[<-hs]
  exact rfl
 |some c=>
  obtain⟨hl,hi⟩:=a8 hx
  rw[hx]at hs
  simp only at hs
  have hw:=iX (n:=j) (by omega)
  have Ct:∀j':Nat,j<j'->b.length -((j':Nat):Int).toNat<b.length -(j:Int).toNat:=fun j' h=>by omega
  have put:∀(d:Int)(c:UInt8)(j':Nat),1<=d->d<=(j':Int)+1->j<j'->j'<=b.length->zl b last f d (o++[c]) j'=T->
   ∃t,(if(d==0)=true then ba (bw ⟨u,true,⟨o⟩⟩) fun r22=>some (Sum.inr ((⟨4,0,r22.1,[]⟩:aa),(0:Int),(⟨r22.2,b,((j':Nat):Int),last⟩:ak)))else ba (aw ⟨u,true,⟨o⟩⟩ c) fun r23=>some (Sum.inl (d,(⟨r23.2,b,((j':Nat):Int),last⟩:ak))))=some (Sum.inl t)/\
    (∃(j f:Nat)(u:Bool)(o:List UInt8),t.2=⟨⟨u,true,⟨o⟩⟩,b,(j:Int),last⟩/\j<=b.length/\b.length -j+1<=f/\o.length<=j/\1<=t.1/\t.1<=(j:Int)+1/\zl b last f t.1 o j=T)/\b.length -t.2.at_.toNat<b.length -(j:Int).toNat:=fun d c j' h1 h2 h3 h4 h5=>by
   have hd:¬(d==0)=true:=by simp;omega
   refine⟨_,ae hd (ah (Dv _ (by omega)) rfl),⟨j',f,true,o++[c],rfl,h4,by omega,by simp;omega,h1,h2,h5⟩,Ct j' h3⟩
  by_cases n92:((c.toNat:Int)==92)=true
  ·rw[if_pos n92]at hs
   obtain⟨x,x1,x2⟩:=Se (last:=last) hb (u:=u) (o:=o) (by omega) (j+1) (by omega)
   have hp:=Gc (b:=b) (last:=last) (j+1) (by omega)
   cases hes:Q8 b last (j+1)with
   |inr e=>
    rw[hes]at hs x2 hp
    simp only at hs
    obtain⟨y1,y2⟩:=x2
    have hp:e=nk last:=hp
    have ho2:bZ x.2=some (nk last):=by rw[<-y2];obtain⟨_,⟨_,_,_,l⟩⟩:=x;cases l<;>rfl
    refine⟨_,ah (dM hx) (ae nT (aN (al n92 (ah (by show b5 ⟨_,b,ao ((j:Int)+1),last⟩=some x;rw[hw];exact x1) (al (by rw[y1];rfl) (ah ho2 rfl)))) rfl)),?_⟩
    show NZ T _
    rw[<-hs,hp]
    exact rfl
   |inl r=>
    rw[hes]at hs x2 hp
    simp only at hs
    obtain⟨u',rfl⟩:=x2
    obtain⟨p1,p2,p3⟩:=hp
    refine⟨_,ah (dM hx) (ae nT (aN (al n92 (ah (by show b5 ⟨_,b,ao ((j:Int)+1),last⟩=_;rw[hw];exact x1) (ae nT rfl))) rfl)),⟨r.2,f,u',o++r.1,rfl,p2,by omega,by simp;omega,d1,by omega,hs⟩,Ct r.2 (by omega)⟩
  ·rw[if_neg n92]at hs
   by_cases n13:((c.toNat:Int)==13)=true
   ·rw[if_pos n13]at hs
    have vZ:=T6 (last:=last) u o hb c n13 (j+1) (by omega)
    cases hy:b[j+1]? with
    |none=>
     rw[hy]at hs vZ
     cases last with
     |false=>
      refine⟨_,ah (dM hx) (ae nT (aN (ae n92 (al n13 (ah (by show cy ⟨_,b,ao ((j:Int)+1),_⟩ c=_;rw[hw];exact vZ) (al rfl (ah (L8 ..) rfl))))) rfl)),?_⟩
      show NZ T _
      rw[<-hs]
      exact rfl
     |true=>
      obtain⟨t,q1,q2,q3⟩:=put deep 10 (j+1) d1 (by omega) (by omega) (by omega) hs
      exact⟨.inl t,ah (dM hx) (ae nT (aN (ae n92 (al n13 (ah (by show cy ⟨_,b,ao ((j:Int)+1),_⟩ c=_;rw[hw];exact vZ) (ae nT rfl)))) q1)),q2,q3⟩
    |some d=>
     rw[hy]at hs vZ
     simp only at hs vZ
     have hl2:=(a8 hy).1
     by_cases hd:((d.toNat:Int)==10)=true
     ·rw[if_pos hd]at hs vZ
      obtain⟨t,q1,q2,q3⟩:=put deep 10 (j+2) d1 (by omega) (by omega) (by omega) hs
      exact⟨.inl t,ah (dM hx) (ae nT (aN (ae n92 (al n13 (ah (by show cy ⟨_,b,ao ((j:Int)+1),_⟩ c=_;rw[hw];exact vZ) (ae nT rfl)))) q1)),q2,q3⟩
     ·rw[if_neg hd]at hs vZ
      obtain⟨t,q1,q2,q3⟩:=put deep 10 (j+1) d1 (by omega) (by omega) (by omega) hs
      exact⟨.inl t,ah (dM hx) (ae nT (aN (ae n92 (al n13 (ah (by show cy ⟨_,b,ao ((j:Int)+1),_⟩ c=_;rw[hw];exact vZ) (ae nT rfl)))) q1)),q2,q3⟩
   ·rw[if_neg n13]at hs
    by_cases n40:((c.toNat:Int)==40)=true
    ·rw[if_pos n40]at hs
     have wd:ao (deep+1)=deep+1:=au (by omega) (by omega)
     obtain⟨t,q1,q2,q3⟩:=put (deep+1) c (j+1) (by omega) (by omega) (by omega) (by omega) hs
     rw[<-hw,<-wd]at q1
     exact⟨.inl t,ah (dM hx) (ae nT (aN (ae n92 (ae n13 (al n40 rfl))) q1)),q2,q3⟩
    ·rw[if_neg n40]at hs
     by_cases n41:((c.toNat:Int)==41)=true
     ·rw[if_pos n41]at hs
      have wd:ao (deep -1)=deep -1:=au (by omega) (by omega)
      by_cases h0:(deep -1==0)=true
      ·rw[if_pos h0]at hs
       refine⟨_,ah (dM hx) (ae nT (aN (ae n92 (ae n13 (ae n40 (al n41 rfl)))) (al (by rw[wd];exact h0) (ah (UW (by omega)) rfl)))),?_⟩
       show NZ T _
       rw[<-hs]
       exact⟨rfl,rfl,hw⟩
      ·rw[if_neg h0]at hs
       obtain⟨t,q1,q2,q3⟩:=put (deep -1) c (j+1) (by simp at h0;omega) (by omega) (by omega) (by omega) hs
       rw[<-hw,<-wd]at q1
       exact⟨.inl t,ah (dM hx) (ae nT (aN (ae n92 (ae n13 (ae n40 (al n41 rfl)))) q1)),q2,q3⟩
     ·rw[if_neg n41]at hs
      obtain⟨t,q1,q2,q3⟩:=put deep c (j+1) d1 (by omega) (by omega) (by omega) hs
      rw[<-hw]at q1
      exact⟨.inl t,ah (dM hx) (ae nT (aN (ae n92 (ae n13 (ae n40 (ae n41 rfl)))) q1)),q2,q3⟩
end
section
variable{b:List UInt8}{last:Bool}
def reR(r:(List UInt8×Nat)⊕Int)(x:UInt8×Int×Bool×Int):Prop:=match r with
 |.inr e=>x.2.2.2=e
 |.inl r=>x.2.2.2=0/\x.2.1=(r.2:Int)/\((x.2.2.1=true/\r.1=[x.1])\/(x.2.2.1=false/\r.1=[]))
theorem Sq(c:UInt8)(hc:48<=(c.toNat:Int)/\(c.toNat:Int)<=55)(j:Nat)(hx:b[j]? =some c):qQ b 3 0 j=qQ b 2 ((c.toNat:Int) -48) (j+1):=by
 rw[qQ,hx]
 simp only
 rw[if_neg (by simp;omega)]
 congr 1
 omega
theorem SU(hb:b.length<1048576)(j:Nat)(hj:j<=b.length):∃x,gv b (j:Int) last=some x/\reR (Q8 b last j) x:=by
 unfold gv Q8
 cases hx:b[j]? with
 |none=>
  have:=c5 hx
  exact⟨_,al (by simp;omega) (ah (WY last) rfl),rfl⟩
 |some c=>
  obtain⟨hl,hi⟩:=a8 hx
  have hw:=iX (n:=j) (by omega)
  simp only
  have ng:¬(decide ((j:Int)>=(b.length:Int)))=true:=by simp;omega
  have np:0<=(j:Int)/\(j:Int)<b.length:=by omega
  rw[if_neg ng,c9 np,hi]
  by_cases n1:((c.toNat:Int)==110)=true
  ·rw[if_pos n1,if_pos n1];exact⟨_,rfl,rfl,hw,.inl ⟨rfl,rfl⟩⟩
  rw[if_neg n1,if_neg n1]
  by_cases n2:((c.toNat:Int)==114)=true
  ·rw[if_pos n2,if_pos n2];exact⟨_,rfl,rfl,hw,.inl ⟨rfl,rfl⟩⟩
  rw[if_neg n2,if_neg n2]
  by_cases n3:((c.toNat:Int)==116)=true
  ·rw[if_pos n3,if_pos n3];exact⟨_,rfl,rfl,hw,.inl ⟨rfl,rfl⟩⟩
  rw[if_neg n3,if_neg n3]
  by_cases n4:((c.toNat:Int)==98)=true
  ·rw[if_pos n4,if_pos n4];exact⟨_,rfl,rfl,hw,.inl ⟨rfl,rfl⟩⟩
  rw[if_neg n4,if_neg n4]
  by_cases n5:((c.toNat:Int)==102)=true
  ·rw[if_pos n5,if_pos n5];exact⟨_,rfl,rfl,hw,.inl ⟨rfl,rfl⟩⟩
  rw[if_neg n5,if_neg n5]
  by_cases n10:((c.toNat:Int)==10)=true
  ·rw[if_pos n10,if_pos n10];exact⟨_,rfl,rfl,hw,.inr ⟨rfl,rfl⟩⟩
  rw[if_neg n10,if_neg n10]
  by_cases n13:((c.toNat:Int)==13)=true
  ·rw[if_pos n13,if_pos n13,hw]
   have w2:ao ((j:Int)+2)=((j+2:Nat):Int):=by rw[au (by omega) (by omega)];rfl
   rw[w2]
   cases hy:b[j+1]? with
   |none=>
    have:=c5 hy
    cases last with
    |false=>exact⟨_,al (by simp;omega) rfl,rfl⟩
    |true=>exact⟨_,ae (by simp) (af (by simp;omega) (ae (by simp;omega) rfl)),rfl,rfl,.inr ⟨rfl,rfl⟩⟩
   |some d=>
    obtain⟨hl2,hi2⟩:=a8 hy
    have hd1:decide (((j+1:Nat):Int)<(b.length:Int))=true:=by simp;omega
    have hd2:decide (((j+1:Nat):Int)>=(b.length:Int))=false:=by simp;omega
    simp only[hi2,hd1,hd2,Bool.false_and,Bool.true_and]
    by_cases hd:((d.toNat:Int)==10)=true
    ·rw[if_pos hd,if_pos hd]
     exact⟨_,ae nF (af (by omega) rfl),rfl,rfl,.inr ⟨rfl,rfl⟩⟩
    ·rw[if_neg hd,if_neg hd]
     exact⟨_,ae nF (af (by omega) rfl),rfl,rfl,.inr ⟨rfl,rfl⟩⟩
  rw[if_neg n13,if_neg n13]
  by_cases no:((decide ((c.toNat:Int)<48))||(decide ((c.toNat:Int)>55)))=true
  ·rw[if_pos no,if_pos no];exact⟨_,rfl,rfl,hw,.inl ⟨rfl,rfl⟩⟩
  rw[if_neg no,if_neg no]
  have hc:48<=(c.toNat:Int)/\(c.toNat:Int)<=55:=by simp at no;omega
  have h3:=Sq c hc j hx
  rw[<-h3]
  have hle:=GZ (b:=b) 3 0 j hj
  generalize hT:qQ b 3 0 j=T at hle
  have gQ:j<T.2.1:=by
   rw[h3]at hT
   have:=GZ (b:=b) 2 ((c.toNat:Int) -48) (j+1) (by omega)
   rw[hT]at this;omega
  refine TT (fun(z:Int×Int)=>z=(T.1,((T.2.1 -j:Nat):Int))/\0<=T.1/\T.1<=511) (dn (fun(s:Int×Int)=>∃(i k:Nat),s.2=((3 -k:Nat):Int)/\k<=3/\i=j+(3 -k)/\i<=b.length/\0<=s.1/\s.1<8^(3 -k)/\qQ b k s.1 i=T) (fun s=>(3 -s.2).toNat) _
   ⟨j,3,rfl,Nat.le_refl _,rfl,hj,Int.le_refl _,by show(0:Int)<8^0;decide,hT⟩ (by show(3 -(0:Int)).toNat<_;decide) (by
     rintro⟨n,q⟩ ⟨i,k,eq,hk,ei,hib,n0,n2,hs⟩
     have eq:q=((3 -k:Nat):Int):=eq
     subst eq
     have n0:0<=n:=n0
     have n2:n<8^(3 -k):=n2
     have hs:qQ b k n i=T:=hs
     have hb8:n<=511:=by
      rcases(show k=0\/k=1\/k=2\/k=3 by omega)with rfl|rfl|rfl|rfl
      ·have:n<512:=n2;omega
      ·have:n<64:=n2;omega
      ·have:n<8:=n2;omega
      ·have:n<1:=n2;omega
     have wi:ao ((j:Int)+((3 -k:Nat):Int))=(i:Int):=by rw[au (by omega) (by omega)];omega
     simp only[wi]
     cases k with
     |zero=>
      rw[qQ]at hs
      have d3:decide (((3 -0:Nat):Int)<3)=false:=by decide
      subst hs
      refine⟨_,af (by rw[d3];simp) (af (by rw[d3];simp) (ae (by rw[d3];simp) rfl)),?_,n0,hb8⟩
      show(n,_)=(n,_)
      congr 1
      show((3:Nat):Int)=((i -j:Nat):Int)
      omega
     |succ k=>
      rw[qQ]at hs
      have d3:decide (((3 -(k+1):Nat):Int)<3)=true:=by simp;omega
      cases hy:b[i]? with
      |none=>
       have hl2:=c5 hy
       rw[hy]at hs
       have dl:decide ((i:Int)<(b.length:Int))=false:=by simp;omega
       subst hs
       refine⟨_,af (by rw[dl];simp) (af (by rw[dl];simp) (ae (by rw[dl];simp) rfl)),?_,n0,hb8⟩
       show(n,_)=(n,_)
       congr 1
       show _=((i -j:Nat):Int)
       omega
      |some d=>
       obtain⟨hl2,hi2⟩:=a8 hy
       rw[hy]at hs
       simp only at hs
       have dl:decide ((i:Int)<(b.length:Int))=true:=by simp;omega
       simp only[hi2,d3,dl,Bool.true_and]
       by_cases hd:((decide ((d.toNat:Int)<48))||(decide ((d.toNat:Int)>55)))=true
       ·rw[if_pos hd]at hs
        subst hs
        refine⟨_,af (by omega) (af (by omega) (ae (by simp at hd⊢;omega) rfl)),?_,n0,hb8⟩
        show(n,_)=(n,_)
        congr 1
        show _=((i -j:Nat):Int)
        omega
       ·rw[if_neg hd]at hs
        have hd2:48<=(d.toNat:Int)/\(d.toNat:Int)<=55:=by simp at hd;omega
        have w8:ao ((ao ((ao (8*n))+(ao ((d.toNat:Int))))) -48)=8*n+((d.toNat:Int) -48):=by rw[au (n:=8*n) (by omega) (by omega),au (n:=(d.toNat:Int)) (by omega) (by omega),au (n:=8*n+(d.toNat:Int)) (by omega) (by omega),au (by omega) (by omega)];omega
        have wk:ao (((3 -(k+1):Nat):Int)+1)=((3 -k:Nat):Int):=by rw[au (by omega) (by omega)];omega
        refine⟨_,af (by omega) (af (by omega) (al (by simp;omega) (af (by omega) rfl))),⟨i+1,k,wk,by omega,by omega,by omega,by show 0<=ao _;rw[w8];omega,?_,by show qQ b k (ao _) (i+1)=T;rw[w8];exact hs⟩,?_⟩
        ·show ao _<_
         rw[w8]
         rcases(show k=0\/k=1\/k=2 by omega)with rfl|rfl|rfl
         ·have:n<64:=n2;show _<(512:Int);omega
         ·have:n<8:=n2;show _<(64:Int);omega
         ·have:n<1:=n2;show _<(8:Int);omega
        ·show(3 -ao _).toNat<(3 -((3 -(k+1):Nat):Int)).toNat
         rw[wk];omega)) ?_
  rintro z ⟨rfl,t0,t1⟩
  have wt:ao ((j:Int)+((T.2.1 -j:Nat):Int))=(T.2.1:Int):=by rw[au (by omega) (by omega)];omega
  have um:oq (Int.tmod T.1 256)=oq T.1:=by
   have:((List.range 512).all fun n=>decide (oq (Int.tmod (n:Int) 256)=oq (n:Int)))=true:=by kernel_rfl
   have:=of_decide_eq_true (List.all_eq_true.1 this T.1.toNat (List.mem_range.2 (by omega)))
   rwa[Int.toNat_of_nonneg t0]at this
  simp only[wt]
  by_cases he:(T.2.2&&!last)=true
  ·rw[if_pos he]
   rw[Bool.and_eq_true]at he
   have:=hle.2.2.2 he.1
   exact⟨_,al (by rw[he.2];simp;omega) rfl,rfl⟩
  ·rw[if_neg he]
   refine⟨_,ae ?_ rfl,rfl,rfl,.inl ⟨rfl,by rw[um]⟩⟩
   intro h
   rw[Bool.and_eq_true,Bool.and_eq_true]at h
   apply he
   rw[h.2,Bool.and_true]
   have hlen:T.2.1=b.length:=by have:=h.1.2;simp at this;omega
   have hk3:T.2.1<j+3:=by have:=h.1.1;simp at this;omega
   have Vh:∀(k:Nat)(n:Int)(i:Nat),i<=b.length->(qQ b k n i).2.1=b.length->(qQ b k n i).2.1<i+k->(qQ b k n i).2.2=true:=by
    intro k
    induction k with
    |zero=>intro n i _ _ h;rw[qQ]at h;exact absurd h (by show¬i<i+0;omega)
    |succ k ih=>
     intro n i hi2 h1 h2
     rw[qQ]at h1 h2⊢
     cases hy:b[i]? with
     |none=>rfl
     |some d=>
      have hl2:=(a8 hy).1
      rw[hy]at h1 h2
      simp only at h1 h2⊢
      split at h1
      ·have h1:i=b.length:=h1;omega
      ·rename_i hd
       rw[if_neg hd]at h2⊢
       exact ih _ _ (by omega) h1 (by omega)
   have:=Vh 3 0 j hj (by rw[hT];exact hlen) (by rw[hT];exact hk3)
   rw[hT]at this
   exact this
theorem abo(hb:b.length<1048576)(k:Nat)(hk:k<=b.length):∃x,jq b (k:Int) last=some x/\Uy (zl b last (b.length+1) 1 [] k) x:=by
 have bz:room=140737488355328:=rfl
 generalize hT:zl b last (b.length+1) 1 [] k=T
 unfold jq
 refine uN (fun z=>(z=.inl ()/\T=.inr (nk last))\/∃x,z=.inr x/\Uy T x) (pK (fun z=>(z=.inl ()/\T=.inr (nk last))\/∃x,z=.inr x/\Uy T x) (dn (fun(s:Int×List UInt8×Int)=>∃(j f:Nat),s.1=(j:Int)/\j<=b.length/\b.length -j+1<=f/\s.2.1.length<=j/\1<=s.2.2/\s.2.2<=(j:Int)+1/\zl b last f s.2.2 s.2.1 j=T) (fun s=>b.length -s.1.toNat) _
  ⟨k,b.length+1,rfl,hk,by omega,Nat.zero_le _,by show(1:Int)<=1;decide,by show(1:Int)<=(k:Int)+1;omega,hT⟩ (by show b.length -_<_;omega) ?_) ?_) ?_
 ·rintro⟨a,o,deep⟩ ⟨j,f,e,hj,hf,ho,d1,d2,hs⟩
  have e:a=(j:Int):=e
  subst e
  have ho:o.length<=j:=ho
  have d1:1<=deep:=d1
  have d2:deep<=(j:Int)+1:=d2
  have hs:zl b last f deep o j=T:=hs
  obtain⟨f,rfl⟩:∃g,f=g+1:=⟨f -1,by omega⟩
  rw[zl]at hs
  cases hx:b[j]? with
  |none=>
   have:=c5 hx
   rw[hx]at hs
   exact⟨_,ae (by simp;omega) rfl,.inl ⟨rfl,hs.symm⟩⟩
  |some c=>
   obtain⟨hl,hi⟩:=a8 hx
   rw[hx]at hs
   simp only at hs
   have hw:=iX (n:=j) (by omega)
   have gd:(decide ((j:Int)<(b.length:Int)))=true:=by simp;omega
   have np:0<=(j:Int)/\(j:Int)<b.length:=by omega
   have Ct:∀j':Nat,j<j'->b.length -((j':Nat):Int).toNat<b.length -(j:Int).toNat:=fun j' h=>by omega
   simp only[hi]
   by_cases n92:((c.toNat:Int)==92)=true
   ·rw[if_pos n92]at hs
    obtain⟨x,x1,x2⟩:=SU (last:=last) hb (j+1) (by omega)
    have hp:=Gc (b:=b) (last:=last) (j+1) (by omega)
    rw[<-hw]at x1
    cases hes:Q8 b last (j+1)with
    |inr e=>
     rw[hes]at hs x2 hp
     simp only at hs
     have x2:x.2.2.2=e:=x2
     have hp:e=nk last:=hp
     refine⟨_,al gd (af np (aN (al n92 (ah x1 (al (by rw[x2,hp];cases last<;>rfl) rfl))) rfl)),.inr ⟨_,rfl,?_⟩⟩
     rw[<-hs]
     exact x2
    |inl r=>
     rw[hes]at hs x2 hp
     simp only at hs
     obtain⟨y1,y2,y3⟩:=x2
     obtain⟨p1,p2,p3⟩:=hp
     rcases y3 with⟨y3,y4⟩|⟨y3,y4⟩
     ·refine⟨_,al gd (af np (aN (al n92 (ah x1 (ae (by rw[y1];decide) (eu (al y3 (af (by simp;omega) rfl)) rfl)))) rfl)),⟨r.2,f,y2,p2,by omega,by show(o++_).length<=r.2;simp;omega,d1,by show deep<=_;omega,by show zl b last f deep (o++[x.1]) r.2=T;rw[<-y4];exact hs⟩,?_⟩
      show b.length -(x.2.1).toNat<_
      rw[y2];exact Ct r.2 (by omega)
     ·refine⟨_,al gd (af np (aN (al n92 (ah x1 (ae (by rw[y1];decide) (eu (ae (by rw[y3];decide) rfl) rfl)))) rfl)),⟨r.2,f,y2,p2,by omega,by show o.length<=r.2;omega,d1,by show deep<=_;omega,by show zl b last f deep o r.2=T;rw[y4,List.append_nil]at hs;exact hs⟩,?_⟩
      show b.length -(x.2.1).toNat<_
      rw[y2];exact Ct r.2 (by omega)
   ·rw[if_neg n92]at hs
    have OU:∀(a:Nat)(d:Int)(c:UInt8),1<=d->¬(d==0)=true:=fun a d c h=>by simp;omega
    by_cases n13:((c.toNat:Int)==13)=true
    ·rw[if_pos n13]at hs
     simp only[hw]
     cases hy:b[j+1]? with
     |none=>
      have hl2:=c5 hy
      rw[hy]at hs
      cases last with
      |false=>exact⟨_,al gd (af np (aN (ae n92 (al n13 (al (by simp;omega) rfl))) rfl)),.inr ⟨_,rfl,by rw[<-hs];exact rfl⟩⟩
      |true=>
       refine⟨_,al gd (af np (aN (ae n92 (al n13 (ae (by simp) (eu (af (by simp;omega) (ae (by simp;omega) rfl)) rfl)))) (ae (OU 0 _ c d1) (af (by simp;omega) rfl)))),⟨j+1,f,hw,by omega,by omega,by show(o++_).length<=_;simp;omega,d1,by show deep<=_;omega,hs⟩,?_⟩
       show b.length -(ao _).toNat<_
       rw[hw];exact Ct _ (by omega)
     |some d=>
      obtain⟨hl2,hi2⟩:=a8 hy
      rw[hy]at hs
      simp only at hs
      simp only[hi2]
      by_cases hd:((d.toNat:Int)==10)=true
      ·rw[if_pos hd]at hs
       have w2:ao (((j+1:Nat):Int)+1)=((j+2:Nat):Int):=iX (by omega)
       refine⟨_,al gd (af np (aN (ae n92 (al n13 (ae (by simp;omega) (eu (af (by omega) (al (by rw[hd];simp;omega) rfl)) rfl)))) (ae (OU 0 _ c d1) (af (by simp;omega) rfl)))),⟨j+2,f,w2,by omega,by omega,by show(o++_).length<=_;simp;omega,d1,by show deep<=_;omega,hs⟩,?_⟩
       show b.length -(ao _).toNat<_
       rw[w2];exact Ct _ (by omega)
      ·rw[if_neg hd]at hs
       refine⟨_,al gd (af np (aN (ae n92 (al n13 (ae (by simp;omega) (eu (af (by omega) (ae (by simp at hd⊢;intro _;exact hd) rfl)) rfl)))) (ae (OU 0 _ c d1) (af (by simp;omega) rfl)))),⟨j+1,f,hw,by omega,by omega,by show(o++_).length<=_;simp;omega,d1,by show deep<=_;omega,hs⟩,?_⟩
       show b.length -(ao _).toNat<_
       rw[hw];exact Ct _ (by omega)
    ·rw[if_neg n13]at hs
     by_cases n40:((c.toNat:Int)==40)=true
     ·rw[if_pos n40]at hs
      have wd:ao (deep+1)=deep+1:=au (by omega) (by omega)
      refine⟨_,al gd (af np (aN (ae n92 (ae n13 (al n40 rfl))) (ae (by show¬(ao (deep+1)==0)=true;rw[wd];exact OU 0 _ c (by omega)) (af (by simp;omega) rfl)))),⟨j+1,f,hw,by omega,by omega,by show(o++_).length<=_;simp;omega,by show 1<=ao _;rw[wd];omega,by show ao _<=_;rw[wd];omega,by show zl b last f (ao _) (o++[c]) (j+1)=T;rw[wd];exact hs⟩,?_⟩
      show b.length -(ao _).toNat<_
      rw[hw];exact Ct _ (by omega)
     ·rw[if_neg n40]at hs
      by_cases n41:((c.toNat:Int)==41)=true
      ·rw[if_pos n41]at hs
       have wd:ao (deep -1)=deep -1:=au (by omega) (by omega)
       by_cases h0:(deep -1==0)=true
       ·rw[if_pos h0]at hs
        refine⟨_,al gd (af np (aN (ae n92 (ae n13 (ae n40 (al n41 rfl)))) (al (by show(ao (deep -1)==0)=true;rw[wd];exact h0) rfl))),.inr ⟨_,rfl,?_⟩⟩
        rw[<-hs]
        show(o,ao ((j:Int)+1),(0:Int))=_
        rw[hw]
       ·rw[if_neg h0]at hs
        refine⟨_,al gd (af np (aN (ae n92 (ae n13 (ae n40 (al n41 rfl)))) (ae (by show¬(ao (deep -1)==0)=true;rw[wd];exact h0) (af (by simp;omega) rfl)))),⟨j+1,f,hw,by omega,by omega,by show(o++_).length<=_;simp;omega,by show 1<=ao _;rw[wd];simp at h0;omega,by show ao _<=_;rw[wd];omega,by show zl b last f (ao _) (o++[c]) (j+1)=T;rw[wd];exact hs⟩,?_⟩
        show b.length -(ao _).toNat<_
        rw[hw];exact Ct _ (by omega)
      ·rw[if_neg n41]at hs
       refine⟨_,al gd (af np (aN (ae n92 (ae n13 (ae n40 (ae n41 rfl)))) (ae (OU 0 _ c d1) (af (by simp;omega) rfl)))),⟨j+1,f,hw,by omega,by omega,by show(o++_).length<=_;simp;omega,d1,by show deep<=_;omega,hs⟩,?_⟩
       show b.length -(ao _).toNat<_
       rw[hw];exact Ct _ (by omega)
 ·rintro z (⟨rfl,h⟩|⟨x,rfl,hx⟩)
  ·exact⟨_,rfl,.inl ⟨rfl,h⟩⟩
  ·exact⟨_,rfl,.inr ⟨x,rfl,hx⟩⟩
 ·rintro z (⟨rfl,rfl⟩|⟨x,rfl,hx⟩)
  ·exact⟨_,ah (WY last) rfl,rfl⟩
  ·exact⟨x,rfl,hx⟩
end
section
variable(w:List UInt8)
def Nk:Nat->List UInt8->Nat->List UInt8⊕Int
 |0,out,_=>.inl out
 |f+1,out,i=>match w[i]? with
  |none=>.inl out
  |some c=>if(c.toNat:Int)==35 then(match w[i+2]? with
    |none=>.inr 17
    |some y=>match w[i+1]? with
     |none=>.inr 17
     |some x=>if decide (xF x<0)||decide (xF y<0)then .inr 17 else Nk f (out++[oq (ao (ao (16*xF x)+xF y))]) (i+3))
   else Nk f (out++[c]) (i+1)
def PX(o:List UInt8):aa×Int:=if decide ((o.length:Int)>127)||decide (Lib.indexByte o 0>=0)then(⟨0,0,⟨[]⟩,[]⟩,17)else(⟨5,0,⟨o⟩,[]⟩,0)
def Me:aa×Int:=match Nk w (w.length+1) [] 0 with
 |.inr e=>(⟨0,0,⟨[]⟩,[]⟩,e)
 |.inl o=>PX o
variable{w}
theorem aam(hb:w.length<1048576):ln ⟨w⟩=some (Me w):=by
 have bz:room=140737488355328:=rfl
 have key:∃x,ln ⟨w⟩=some x/\x=Me w:=by
  unfold ln
  unfold Me
  generalize hT:Nk w (w.length+1) [] 0=T
  refine uN (fun z=>z=T) (pK (fun z=>z=T) (dn (fun(s:List UInt8×Int)=>∃(j f:Nat),s.2=(j:Int)/\j<=w.length/\w.length -j+1<=f/\s.1.length<=j/\Nk w f s.1 j=T) (fun s=>w.length -s.2.toNat) _
   ⟨0,w.length+1,rfl,Nat.zero_le _,by omega,Nat.zero_le _,hT⟩ (by show w.length -_<_;omega) ?_) ?_) ?_
  ·rintro⟨o,a⟩ ⟨j,f,e,hj,hf,ho,hs⟩
   have e:a=(j:Int):=e
   subst e
   have ho:o.length<=j:=ho
   have hs:Nk w f o j=T:=hs
   obtain⟨f,rfl⟩:∃g,f=g+1:=⟨f -1,by omega⟩
   rw[Nk]at hs
   cases hx:w[j]? with
   |none=>
    have:=c5 hx
    rw[hx]at hs
    exact⟨_,ae (by simp;omega) rfl,hs⟩
   |some c=>
    obtain⟨hl,hi⟩:=a8 hx
    rw[hx]at hs
    simp only at hs
    have w1:ao ((j:Int)+1)=((j+1:Nat):Int):=iX (by omega)
    have w2:ao ((j:Int)+2)=((j+2:Nat):Int):=by rw[au (by omega) (by omega)];rfl
    have w3:ao (((j+2:Nat):Int)+1)=((j+3:Nat):Int):=iX (by omega)
    have gd:(decide ((j:Int)<(w.length:Int)))=true:=by simp;omega
    have np:0<=(j:Int)/\(j:Int)<w.length:=by omega
    simp only[hi,w1,w2]
    by_cases n35:((c.toNat:Int)==35)=true
    ·rw[if_pos n35]at hs
     cases hy:w[j+2]? with
     |none=>
      have hl2:=c5 hy
      rw[hy]at hs
      have dg:decide (((j+2:Nat):Int)>=(w.length:Int))=true:=by simp;omega
      refine⟨_,al gd (af np (aN (al n35 (af (by rw[dg];simp) (ah (NP (by rw[dg];rfl)) (af (by rw[dg];simp) (ah (NP (by rw[dg];rfl)) (al (by rw[dg];rfl) rfl)))))) rfl)),hs⟩
     |some y=>
      obtain⟨hl2,hi2⟩:=a8 hy
      rw[hy]at hs
      obtain⟨x,hz⟩:∃x,w[j+1]? =some x:=⟨w[j+1],List.getElem?_eq_getElem (by omega)⟩
      obtain⟨hl3,hi3⟩:=a8 hz
      rw[hz]at hs
      simp only at hs
      have dg:decide (((j+2:Nat):Int)>=(w.length:Int))=false:=by simp;omega
      simp only[hi2,hi3,dg,Bool.false_or,Bool.not_false]
      by_cases hxn:xF x<0
      ·rw[if_pos (by simp;exact .inl hxn)]at hs
       exact⟨_,al gd (af np (aN (al n35 (af (by omega) (ah (yj x) (af (by omega) (ah (NP (by simpa using hxn)) (al (by simp;omega) rfl)))))) rfl)),hs⟩
      ·have dx:decide (xF x<0)=false:=by simpa using hxn
       by_cases hyn:xF y<0
       ·rw[if_pos (by simp;exact .inr hyn)]at hs
        exact⟨_,al gd (af np (aN (al n35 (af (by omega) (ah (yj x) (af (by omega) (ah (by rw[dx];exact yj y) (al (by simp;exact .inr hyn) rfl)))))) rfl)),hs⟩
       ·rw[if_neg (by simp;omega)]at hs
        refine⟨_,al gd (af np (aN (al n35 (af (by omega) (ah (yj x) (af (by omega) (ah (by rw[dx];exact yj y) (ae (by simp;omega) (af (by omega) (ah (yj x) (af (by omega) (ah (yj y) rfl)))))))))) (af (by simp;omega) rfl))),⟨j+3,f,w3,by omega,by omega,by show(o++_).length<=_;simp;omega,hs⟩,?_⟩
        show w.length -(ao _).toNat<w.length -(j:Int).toNat
        rw[w3];omega
    ·rw[if_neg n35]at hs
     refine⟨_,al gd (af np (aN (ae n35 rfl) (af (by simp;omega) rfl))),⟨j+1,f,w1,by omega,by omega,by show(o++_).length<=_;simp;omega,hs⟩,?_⟩
     show w.length -(ao _).toNat<w.length -(j:Int).toNat
     rw[w1];omega
  ·rintro z rfl
   cases z with
   |inl o=>exact⟨_,rfl,rfl⟩
   |inr e=>exact⟨_,rfl,rfl⟩
  ·rintro z rfl
   cases z with
   |inr e=>exact⟨_,rfl,rfl⟩
   |inl o=>
    show∃x,(ba (dQ (!(decide ((o.length:Int)>127))) 0 (dv o 0)) fun r22=>_)=some x/\x=PX o
    unfold PX
    cases hd:decide ((o.length:Int)>127)with
    |true=>exact⟨_,ah (NP rfl) (al rfl rfl),by rw[Bool.true_or,if_pos rfl]⟩
    |false=>
     rw[Bool.not_false,Bool.false_or]
     by_cases h:(decide (Lib.indexByte o 0>=0))=true
     ·exact⟨_,ah (show dQ true 0 (dv o 0)=some _ from rfl) (al h rfl),by rw[if_pos h]⟩
     ·exact⟨_,ah (show dQ true 0 (dv o 0)=some _ from rfl) (ae h rfl),by rw[if_neg h]⟩
 obtain⟨x,h1,rfl⟩:=key
 exact h1
theorem Z0:∀(l:List UInt8),(decide (Lib.indexByte l 0>=0))=l.any fun c=>(c.toNat:Int)==0
 |[]=>rfl
 |c::l=>by
  have e:(c==0)=((c.toNat:Int)==0):=of_decide_eq_true (iL (fun c=>decide ((c==0)=((c.toNat:Int)==0))) (by kernel_rfl) c)
  have hge:=Lib.indexByte_ge l 0
  rw[Lib.indexByte,List.any_cons,<-Z0 l,e]
  cases h:((c.toNat:Int)==0)with
  |true=>rfl
  |false=>
   rw[if_neg nF,Bool.false_or]
   by_cases h1:Lib.indexByte l 0=-1
   ·rw[if_pos (by rw[h1];rfl),h1]
   ·rw[if_neg (by simpa using h1)]
    simp;omega
theorem abm(hb:w.length<1048576):gV w=some (Me w):=by
 have bz:room=140737488355328:=rfl
 have key:∃x,gV w=some x/\x=Me w:=by
  unfold gV
  unfold Me
  generalize hT:Nk w (w.length+1) [] 0=T
  refine uN (fun z=>z=T/\∀o,z=.inl o->o.length<=w.length) (pK (fun z=>z=T/\∀o,z=.inl o->o.length<=w.length) (dn (fun(s:List UInt8×Int)=>∃(j f:Nat),s.2=(j:Int)/\j<=w.length/\w.length -j+1<=f/\s.1.length<=j/\Nk w f s.1 j=T) (fun s=>w.length -s.2.toNat) _
   ⟨0,w.length+1,rfl,Nat.zero_le _,by omega,Nat.zero_le _,hT⟩ (by show w.length -_<_;omega) ?_) ?_) ?_
  ·rintro⟨o,a⟩ ⟨j,f,e,hj,hf,ho,hs⟩
   have e:a=(j:Int):=e
   subst e
   have ho:o.length<=j:=ho
   have hs:Nk w f o j=T:=hs
   obtain⟨f,rfl⟩:∃g,f=g+1:=⟨f -1,by omega⟩
   rw[Nk]at hs
   cases hx:w[j]? with
   |none=>
    have:=c5 hx
    rw[hx]at hs
    refine⟨_,ae (by simp;omega) rfl,hs,fun o' h=>?_⟩
    injection h with h
    subst h
    omega
   |some c=>
    obtain⟨hl,hi⟩:=a8 hx
    rw[hx]at hs
    simp only at hs
    have w1:ao ((j:Int)+1)=((j+1:Nat):Int):=iX (by omega)
    have w2:ao ((j:Int)+2)=((j+2:Nat):Int):=by rw[au (by omega) (by omega)];rfl
    have w3:ao (((j+2:Nat):Int)+1)=((j+3:Nat):Int):=iX (by omega)
    have gd:(decide ((j:Int)<(w.length:Int)))=true:=by simp;omega
    have np:0<=(j:Int)/\(j:Int)<w.length:=by omega
    simp only[hi,w1,w2]
    by_cases n35:((c.toNat:Int)==35)=true
    ·rw[if_pos n35]at hs
     have m35:¬((c.toNat:Int)!=35)=true:=by simpa using n35
     have Wk:∀o:List UInt8,(Sum.inr (17:Int):List UInt8⊕Int)=.inl o->o.length<=w.length:=fun o h=>by cases h
     cases hy:w[j+2]? with
     |none=>
      have hl2:=c5 hy
      rw[hy]at hs
      have dg:decide (((j+2:Nat):Int)>=(w.length:Int))=true:=by simp;omega
      refine⟨_,al gd (aN (af np (ae m35 (af (by rw[dg];simp) (ah (NP (by rw[dg];rfl)) (af (by rw[dg];simp) (ah (NP (by rw[dg];rfl)) (al (by rw[dg];rfl) rfl))))))) rfl),hs,Wk⟩
     |some y=>
      obtain⟨hl2,hi2⟩:=a8 hy
      rw[hy]at hs
      obtain⟨x,hz⟩:∃x,w[j+1]? =some x:=⟨w[j+1],List.getElem?_eq_getElem (by omega)⟩
      obtain⟨hl3,hi3⟩:=a8 hz
      rw[hz]at hs
      simp only at hs
      have dg:decide (((j+2:Nat):Int)>=(w.length:Int))=false:=by simp;omega
      simp only[hi2,hi3,dg,Bool.false_or,Bool.not_false]
      by_cases hxn:xF x<0
      ·rw[if_pos (by simp;exact .inl hxn)]at hs
       exact⟨_,al gd (aN (af np (ae m35 (af (by omega) (ah (Ee x) (af (by omega) (ah (NP (by simpa using hxn)) (al (by simp;omega) rfl))))))) rfl),hs,Wk⟩
      ·have dx:decide (xF x<0)=false:=by simpa using hxn
       by_cases hyn:xF y<0
       ·rw[if_pos (by simp;exact .inr hyn)]at hs
        exact⟨_,al gd (aN (af np (ae m35 (af (by omega) (ah (Ee x) (af (by omega) (ah (by rw[dx];exact Ee y) (al (by simp;exact .inr hyn) rfl))))))) rfl),hs,Wk⟩
       ·rw[if_neg (by simp;omega)]at hs
        refine⟨_,al gd (aN (af np (ae m35 (af (by omega) (ah (Ee x) (af (by omega) (ah (by rw[dx];exact Ee y) (ae (by simp;omega) (af (by omega) (ah (Ee x) (af (by omega) (ah (Ee y) (af (by simp;omega) rfl)))))))))))) rfl),⟨j+3,f,w3,by omega,by omega,by show(o++_).length<=_;simp;omega,hs⟩,?_⟩
        show w.length -(ao _).toNat<w.length -(j:Int).toNat
        rw[w3];omega
    ·rw[if_neg n35]at hs
     refine⟨_,al gd (aN (af np (al (by simpa using n35) (af np (af (by simp;omega) rfl)))) rfl),⟨j+1,f,w1,by omega,by omega,by show(o++_).length<=_;simp;omega,hs⟩,?_⟩
     show w.length -(ao _).toNat<w.length -(j:Int).toNat
     rw[w1];omega
  ·rintro z ⟨rfl,h⟩
   cases z with
   |inl o=>exact⟨_,rfl,rfl,h⟩
   |inr e=>exact⟨_,rfl,rfl,h⟩
  ·rintro z ⟨rfl,h⟩
   cases z with
   |inr e=>exact⟨_,rfl,rfl⟩
   |inl o=>
    have ho:=h o rfl
    show∃x,(oU _ _ _)=some x/\x=PX o
    unfold PX
    rw[Z0]
    have UQ:∀j,(o.drop j).any (fun c=>(c.toNat:Int)==0)=(match o[j]? with|none=>false|some c=>((c.toNat:Int)==0)||(o.drop (j+1)).any fun c=>(c.toNat:Int)==0):=fun j=>by
     cases hj:o[j]? with
     |none=>rw[List.drop_eq_nil_of_le (c5 hj)];rfl
     |some c=>
      obtain⟨hl,hc⟩:=List.getElem?_eq_some_iff.1 hj
      rw[List.drop_eq_getElem_cons hl,hc];rfl
    refine uN (fun z=>if(o.any fun c=>(c.toNat:Int)==0)=true then z=.inr 17 else z=.inl ()) (pK (fun z=>if(o.any fun c=>(c.toNat:Int)==0)=true then z=.inr 17 else z=.inl ()) (dn (fun(s:Int)=>∃j:Nat,s=(j:Int)/\j<=o.length/\(o.drop j).any (fun c=>(c.toNat:Int)==0)=o.any (fun c=>(c.toNat:Int)==0)) (fun s=>o.length -s.toNat) _ ⟨0,rfl,Nat.zero_le _,rfl⟩ (by show o.length -_<_;omega) ?_) ?_) ?_
    ·rintro s ⟨j,rfl,hj,hs⟩
     rw[UQ]at hs
     cases hx:o[j]? with
     |none=>
      have:=c5 hx
      rw[hx]at hs
      refine⟨_,ae (by simp;omega) rfl,?_⟩
      show if _ then _ else _
      rw[<-hs,if_neg nF]
     |some c=>
      obtain⟨hl,hi⟩:=a8 hx
      rw[hx]at hs
      simp only at hs
      by_cases h0:((c.toNat:Int)==0)=true
      ·refine⟨_,al (by simp;omega) (af (by omega) (al (by rw[hi];exact h0) rfl)),?_⟩
       show if _ then _ else _
       rw[<-hs,h0,Bool.true_or,if_pos rfl]
      ·have e0:((c.toNat:Int)==0)=false:=by simpa using h0
       rw[e0,Bool.false_or]at hs
       have w1:ao ((j:Int)+1)=((j+1:Nat):Int):=iX (by omega)
       refine⟨_,al (by simp;omega) (af (by omega) (ae (by rw[hi];exact h0) rfl)),⟨j+1,w1,by omega,hs⟩,?_⟩
       rw[w1];omega
    ·intro z hz
     cases ha:(o.any fun c=>(c.toNat:Int)==0)with
     |true=>rw[ha,if_pos rfl]at hz;subst hz;exact⟨_,rfl,by rw[if_pos rfl]⟩
     |false=>rw[ha,if_neg nF]at hz;subst hz;exact⟨_,rfl,by rw[if_neg nF]⟩
    ·intro z hz
     cases ha:(o.any fun c=>(c.toNat:Int)==0)with
     |true=>rw[ha,if_pos rfl]at hz;subst hz;exact⟨_,rfl,by rw[Bool.or_true,if_pos rfl]⟩
     |false=>
      rw[ha,if_neg nF]at hz;subst hz
      rw[Bool.or_false]
      by_cases h1:(decide ((o.length:Int)>127))=true
      ·exact⟨_,al h1 rfl,by rw[if_pos h1]⟩
      ·exact⟨_,ae h1 rfl,by rw[if_neg h1]⟩
 obtain⟨x,h1,rfl⟩:=key
 exact h1
end
end Go.AB
end
