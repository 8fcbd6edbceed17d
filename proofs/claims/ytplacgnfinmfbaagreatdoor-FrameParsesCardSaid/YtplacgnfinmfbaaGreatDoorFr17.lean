/- A part. -/
import Derived.Test.YtplacgnfinmfbaaGreatDoorFr16
set_option linter.defProp false
set_option linter.unusedSimpArgs false
set_option linter.unusedVariables false
section
namespace Go.AB
open Go
section
variable{b:List UInt8}{last:Bool}
def reR(r:(List UInt8×Nat)⊕Int)(x:UInt8×Int×Bool×Int):Prop:=match r with
 |.inr e=>x.2.2.2=e
 |.inl r=>x.2.2.2=0/\x.2.1=(r.2:Int)/\((x.2.2.1=true/\r.1=[x.1])\/(x.2.2.1=false/\r.1=[]))
def Tc(c:UInt8)(hc:48<=(c.toNat:Int)/\(c.toNat:Int)<=55)(j:Nat)(hx:b[j]? =some c):tL b 3 0 j=tL b 2 ((c.toNat:Int) -48) (j+1):=by
 rw[tL,hx]
 simp only
 rw[if_neg By]
 congr 1
 omega
def TG(hb:b.length<1048576)(j:Nat)(hj:j<=b.length):∃x,j8 b (j:Int) last=some x/\reR (Rl b last j) x:=by
 unfold j8 Rl
 cases hx:b[j]? with
 |none=>
  have:=eH hx
  exact⟨_,aw By (ah (Yf last) rfl),rfl⟩
 |some c=>
  obtain⟨hl,hi⟩:=bC hx
  have hw:=kK (n:=j) AT
  simp only
  have ng:¬(decide ((j:Int)>=(b.length:Int)))=true:=By
  have np:0<=(j:Int)/\(j:Int)<b.length:=AT
  rw[if_neg ng,aP np,hi]
  by_cases n1:((c.toNat:Int)==110)=true
  ·rw[if_pos n1,if_pos n1];exact⟨_,rfl,rfl,hw,.inl ⟨rfl,rfl⟩⟩
  rw[if_neg n1,if_neg n1]
  by_cases n2:((c.toNat:Int)==114)=true
  ·rw[if_pos n2,if_pos n2];exact⟨_,rfl,rfl,hw,.inl ⟨rfl,rfl⟩⟩
  rw[if_neg n2,if_neg n2]
  by_cases n3:((c.toNat:Int)==116)=true
  ·rw[if_pos n3,if_pos n3];exact⟨_,rfl,rfl,hw,.inl ⟨rfl,rfl⟩⟩
  rw[if_neg n3,if_neg n3]
  by_cases n4:((c.toNat:Int)==98)=true
  ·rw[if_pos n4,if_pos n4];exact⟨_,rfl,rfl,hw,.inl ⟨rfl,rfl⟩⟩
  rw[if_neg n4,if_neg n4]
  by_cases n5:((c.toNat:Int)==102)=true
  ·rw[if_pos n5,if_pos n5];exact⟨_,rfl,rfl,hw,.inl ⟨rfl,rfl⟩⟩
  rw[if_neg n5,if_neg n5]
  by_cases n10:((c.toNat:Int)==10)=true
  ·rw[if_pos n10,if_pos n10];exact⟨_,rfl,rfl,hw,.inr ⟨rfl,rfl⟩⟩
  rw[if_neg n10,if_neg n10]
  by_cases n13:((c.toNat:Int)==13)=true
  ·rw[if_pos n13,if_pos n13,hw]
   have w2:ao ((j:Int)+2)=((j+2:Nat):Int):=Z_
   rw[w2]
   cases hy:b[j+1]? with
   |none=>
    have:=eH hy
    cases last with
    |false=>exact⟨_,aw By rfl,rfl⟩
    |true=>exact⟨_,ag B_ (ai By (ag By rfl)),rfl,rfl,.inr ⟨rfl,rfl⟩⟩
   |some d=>
    obtain⟨hl2,hi2⟩:=bC hy
    have hd1:decide (((j+1:Nat):Int)<(b.length:Int))=true:=By
    have hd2:decide (((j+1:Nat):Int)>=(b.length:Int))=false:=By
    simp only[hi2,hd1,hd2,Bool.false_and,Bool.true_and]
    by_cases hd:((d.toNat:Int)==10)=true
    ·rw[if_pos hd,if_pos hd]
     exact⟨_,ag nF (ai AT rfl),rfl,rfl,.inr ⟨rfl,rfl⟩⟩
    ·rw[if_neg hd,if_neg hd]
     exact⟨_,ag nF (ai AT rfl),rfl,rfl,.inr ⟨rfl,rfl⟩⟩
  rw[if_neg n13,if_neg n13]
  by_cases no:((decide ((c.toNat:Int)<48))||(decide ((c.toNat:Int)>55)))=true
  ·rw[if_pos no,if_pos no];exact⟨_,rfl,rfl,hw,.inl ⟨rfl,rfl⟩⟩
  rw[if_neg no,if_neg no]
  have hc:48<=(c.toNat:Int)/\(c.toNat:Int)<=55:=by simp at no;omega
  have h3:=Tc c hc j hx
  rw[<-h3]
  have hle:=GI (b:=b) 3 0 j hj
  generalize hT:tL b 3 0 j=T at hle
  have jR:j<T.2.1:=by
   rw[h3]at hT
   have:=GI (b:=b) 2 ((c.toNat:Int) -48) (j+1) AT
   rw[hT]at this;omega
  refine zM (fun(z:Int×Int)=>z=(T.1,((T.2.1 -j:Nat):Int))/\0<=T.1/\T.1<=511) (cF (fun(s:Int×Int)=>∃(i k:Nat),s.2=((3 -k:Nat):Int)/\k<=3/\i=j+(3 -k)/\i<=b.length/\0<=s.1/\s.1<8^(3 -k)/\tL b k s.1 i=T) (fun s=>(3 -s.2).toNat) _
   ⟨j,3,rfl,Nat.le_refl _,rfl,hj,Int.le_refl _,by show(0:Int)<8^0;decide,hT⟩ (by show(3 -(0:Int)).toNat<_;decide) (by
     rintro⟨n,q⟩ ⟨i,k,eq,hk,ei,hib,n0,n2,hs⟩
     have eq:q=((3 -k:Nat):Int):=eq
     subst eq
     have n0:0<=n:=n0
     have n2:n<8^(3 -k):=n2
     have hs:tL b k n i=T:=hs
     have hb8:n<=511:=by
      rcases(show k=0\/k=1\/k=2\/k=3 by omega)with rfl|rfl|rfl|rfl
      ·have:n<512:=n2;omega
      ·have:n<64:=n2;omega
      ·have:n<8:=n2;omega
      ·have:n<1:=n2;omega
     have wi:ao ((j:Int)+((3 -k:Nat):Int))=(i:Int):=H_
     simp only[wi]
     cases k with
     |zero=>
      rw[tL]at hs
      have d3:decide (((3 -0:Nat):Int)<3)=false:=BY
      subst hs
      refine⟨_,ai (by rw[d3];simp) (ai (by rw[d3];simp) (ag (by rw[d3];simp) rfl)),?_,n0,hb8⟩
      show(n,_)=(n,_)
      congr 1
      show((3:Nat):Int)=((i -j:Nat):Int)
      omega
     |succ k=>
      rw[tL]at hs
      have d3:decide (((3 -(k+1):Nat):Int)<3)=true:=By
      cases hy:b[i]? with
      |none=>
       have hl2:=eH hy
       rw[hy]at hs
       have dl:decide ((i:Int)<(b.length:Int))=false:=By
       subst hs
       refine⟨_,ai (by rw[dl];simp) (ai (by rw[dl];simp) (ag (by rw[dl];simp) rfl)),?_,n0,hb8⟩
       show(n,_)=(n,_)
       congr 1
       show _=((i -j:Nat):Int)
       omega
      |some d=>
       obtain⟨hl2,hi2⟩:=bC hy
       rw[hy]at hs
       simp only at hs
       have dl:decide ((i:Int)<(b.length:Int))=true:=By
       simp only[hi2,d3,dl,Bool.true_and]
       by_cases hd:((decide ((d.toNat:Int)<48))||(decide ((d.toNat:Int)>55)))=true
       ·rw[if_pos hd]at hs
        subst hs
        refine⟨_,ai AT (ai AT (ag (by simp at hd⊢;omega) rfl)),?_,n0,hb8⟩
        show(n,_)=(n,_)
        congr 1
        show _=((i -j:Nat):Int)
        omega
       ·rw[if_neg hd]at hs
        have hd2:48<=(d.toNat:Int)/\(d.toNat:Int)<=55:=by simp at hd;omega
        have w8:ao ((ao ((ao (8*n))+(ao ((d.toNat:Int))))) -48)=8*n+((d.toNat:Int) -48):=by rw[ak (n:=8*n) AT AT,ak (n:=(d.toNat:Int)) AT AT,ak (n:=8*n+(d.toNat:Int)) AT AT,ak AT AT];omega
        have wk:ao (((3 -(k+1):Nat):Int)+1)=((3 -k:Nat):Int):=H_
        refine⟨_,ai AT (ai AT (aw By (ai AT rfl))),⟨i+1,k,wk,AT,AT,AT,by show 0<=ao _;rw[w8];omega,?_,by show tL b k (ao _) (i+1)=T;rw[w8];exact hs⟩,?_⟩
        ·show ao _<_
         rw[w8]
         rcases(show k=0\/k=1\/k=2 by omega)with rfl|rfl|rfl
         ·have:n<64:=n2;show _<(512:Int);omega
         ·have:n<8:=n2;show _<(64:Int);omega
         ·have:n<1:=n2;show _<(8:Int);omega
        grind)) ?_
  rintro z ⟨rfl,t0,t1⟩
  have wt:ao ((j:Int)+((T.2.1 -j:Nat):Int))=(T.2.1:Int):=H_
  have um:eR (Int.tmod T.1 256)=eR T.1:=by
   have:((List.range 512).all fun n=>decide (eR (Int.tmod (n:Int) 256)=eR (n:Int)))=true:=C_
   have:=of_decide_eq_true (List.all_eq_true.1 this T.1.toNat (List.mem_range.2 AT))
   rwa[Int.toNat_of_nonneg t0]at this
  simp only[wt]
  by_cases he:(T.2.2&&!last)=true
  ·rw[if_pos he]
   rw[Bool.and_eq_true]at he
   have:=hle.2.2.2 he.1
   exact⟨_,aw (by rw[he.2];simp;omega) rfl,rfl⟩
  ·rw[if_neg he]
   refine⟨_,ag ?_ rfl,rfl,rfl,.inl ⟨rfl,by rw[um]⟩⟩
   intro h
   rw[Bool.and_eq_true,Bool.and_eq_true]at h
   apply he
   rw[h.2,Bool.and_true]
   have hlen:T.2.1=b.length:=by have:=h.1.2;simp at this;omega
   have hk3:T.2.1<j+3:=by have:=h.1.1;simp at this;omega
   have aeB:∀(k:Nat)(n:Int)(i:Nat),i<=b.length->(tL b k n i).2.1=b.length->(tL b k n i).2.1<i+k->(tL b k n i).2.2=true:=by
    intro k
    induction k with
    |zero=>intro n i _ _ h;rw[tL]at h;exact absurd h (by show¬i<i+0;omega)
    |succ k ih=>
     intro n i hi2 h1 h2
     rw[tL]at h1 h2⊢
     cases hy:b[i]? with
     |none=>rfl
     |some d=>
      have hl2:=(bC hy).1
      rw[hy]at h1 h2
      simp only at h1 h2⊢
      split at h1
      ·have h1:i=b.length:=h1;omega
      ·rename_i hd
       rw[if_neg hd]at h2⊢
       exact ih _ _ AT h1 AT
   grind
def acA(hb:b.length<1048576)(k:Nat)(hk:k<=b.length):∃x,mN b (k:Int) last=some x/\Vz (zz b last (b.length+1) 1 [] k) x:=by
 have bP:room=140737488355328:=rfl
 generalize hT:zz b last (b.length+1) 1 [] k=T
 unfold mN
 refine gy (fun z=>(z=.inl ()/\T=.inr (oZ last))\/∃x,z=.inr x/\Vz T x) (lW (fun z=>(z=.inl ()/\T=.inr (oZ last))\/∃x,z=.inr x/\Vz T x) (cF (fun(s:Int×List UInt8×Int)=>∃(j f:Nat),s.1=(j:Int)/\j<=b.length/\b.length -j+1<=f/\s.2.1.length<=j/\1<=s.2.2/\s.2.2<=(j:Int)+1/\zz b last f s.2.2 s.2.1 j=T) (fun s=>b.length -s.1.toNat) _
  ⟨k,b.length+1,rfl,hk,AT,Nat.zero_le _,by show(1:Int)<=1;decide,by show(1:Int)<=(k:Int)+1;omega,hT⟩ (by show b.length -_<_;omega) ?_) ?_) ?_
 ·rintro⟨a,o,deep⟩ ⟨j,f,e,hj,hf,ho,d1,d2,hs⟩
  have e:a=(j:Int):=e
  subst e
  have ho:o.length<=j:=ho
  have d1:1<=deep:=d1
  have d2:deep<=(j:Int)+1:=d2
  have hs:zz b last f deep o j=T:=hs
  obtain⟨f,rfl⟩:∃g,f=g+1:=⟨f -1,AT⟩
  rw[zz]at hs
  cases hx:b[j]? with
  |none=>
   have:=eH hx
   rw[hx]at hs
   exact⟨_,ag By rfl,.inl ⟨rfl,hs.symm⟩⟩
  |some c=>
   obtain⟨hl,hi⟩:=bC hx
   rw[hx]at hs
   simp only at hs
   have hw:=kK (n:=j) AT
   have gd:(decide ((j:Int)<(b.length:Int)))=true:=By
   have np:0<=(j:Int)/\(j:Int)<b.length:=AT
   have Cz:∀j':Nat,j<j'->b.length -((j':Nat):Int).toNat<b.length -(j:Int).toNat:=fun j' h=>AT
   simp only[hi]
   by_cases n92:((c.toNat:Int)==92)=true
   ·rw[if_pos n92]at hs
    obtain⟨x,x1,x2⟩:=TG (last:=last) hb (j+1) AT
    have hp:=Gj (b:=b) (last:=last) (j+1) AT
    rw[<-hw]at x1
    cases hes:Rl b last (j+1)with
    |inr e=>
     rw[hes]at hs x2 hp
     simp only at hs
     have x2:x.2.2.2=e:=x2
     have hp:e=oZ last:=hp
     refine⟨_,aw gd (ai np (bH (aw n92 (ah x1 (aw (by rw[x2,hp];cases last<;>rfl) rfl))) rfl)),.inr ⟨_,rfl,?_⟩⟩
     rw[<-hs]
     exact x2
    |inl r=>
     rw[hes]at hs x2 hp
     simp only at hs
     obtain⟨y1,y2,y3⟩:=x2
     obtain⟨p1,p2,p3⟩:=hp
     rcases y3 with⟨y3,y4⟩|⟨y3,y4⟩
     ·refine⟨_,aw gd (ai np (bH (aw n92 (ah x1 (ag (by rw[y1];decide) (bQ (aw y3 (ai By rfl)) rfl)))) rfl)),⟨r.2,f,y2,p2,AT,by show(o++_).length<=r.2;simp;omega,d1,w_,by show zz b last f deep (o++[x.1]) r.2=T;rw[<-y4];exact hs⟩,?_⟩
      show b.length -(x.2.1).toNat<_
      rw[y2];exact Cz r.2 AT
     ·refine⟨_,aw gd (ai np (bH (aw n92 (ah x1 (ag (by rw[y1];decide) (bQ (ag (by rw[y3];decide) rfl) rfl)))) rfl)),⟨r.2,f,y2,p2,AT,by show o.length<=r.2;omega,d1,w_,by show zz b last f deep o r.2=T;rw[y4,List.append_nil]at hs;exact hs⟩,?_⟩
      show b.length -(x.2.1).toNat<_
      rw[y2];exact Cz r.2 AT
   ·rw[if_neg n92]at hs
    have OK:∀(a:Nat)(d:Int)(c:UInt8),1<=d->¬(d==0)=true:=fun a d c h=>By
    by_cases n13:((c.toNat:Int)==13)=true
    ·rw[if_pos n13]at hs
     simp only[hw]
     cases hy:b[j+1]? with
     |none=>
      have hl2:=eH hy
      rw[hy]at hs
      cases last with
      |false=>exact⟨_,aw gd (ai np (bH (ag n92 (aw n13 (aw By rfl))) rfl)),.inr ⟨_,rfl,by rw[<-hs];exact rfl⟩⟩
      |true=>
       refine⟨_,aw gd (ai np (bH (ag n92 (aw n13 (ag B_ (bQ (ai By (ag By rfl)) rfl)))) (ag (OK 0 _ c d1) (ai By rfl)))),⟨j+1,f,hw,AT,AT,x_,d1,w_,hs⟩,?_⟩
       show b.length -(ao _).toNat<_
       rw[hw];exact Cz _ AT
     |some d=>
      obtain⟨hl2,hi2⟩:=bC hy
      rw[hy]at hs
      simp only at hs
      simp only[hi2]
      by_cases hd:((d.toNat:Int)==10)=true
      ·rw[if_pos hd]at hs
       have w2:ao (((j+1:Nat):Int)+1)=((j+2:Nat):Int):=kK AT
       refine⟨_,aw gd (ai np (bH (ag n92 (aw n13 (ag By (bQ (ai AT (aw (by rw[hd];simp;omega) rfl)) rfl)))) (ag (OK 0 _ c d1) (ai By rfl)))),⟨j+2,f,w2,AT,AT,x_,d1,w_,hs⟩,?_⟩
       show b.length -(ao _).toNat<_
       rw[w2];exact Cz _ AT
      ·rw[if_neg hd]at hs
       refine⟨_,aw gd (ai np (bH (ag n92 (aw n13 (ag By (bQ (ai AT (ag (by simp at hd⊢;intro _;exact hd) rfl)) rfl)))) (ag (OK 0 _ c d1) (ai By rfl)))),⟨j+1,f,hw,AT,AT,x_,d1,w_,hs⟩,?_⟩
       show b.length -(ao _).toNat<_
       rw[hw];exact Cz _ AT
    ·rw[if_neg n13]at hs
     by_cases n40:((c.toNat:Int)==40)=true
     ·rw[if_pos n40]at hs
      have wd:ao (deep+1)=deep+1:=ak AT AT
      refine⟨_,aw gd (ai np (bH (ag n92 (ag n13 (aw n40 rfl))) (ag (by show¬(ao (deep+1)==0)=true;rw[wd];exact OK 0 _ c AT) (ai By rfl)))),⟨j+1,f,hw,AT,AT,x_,by show 1<=ao _;rw[wd];omega,by show ao _<=_;rw[wd];omega,by show zz b last f (ao _) (o++[c]) (j+1)=T;rw[wd];exact hs⟩,?_⟩
      show b.length -(ao _).toNat<_
      rw[hw];exact Cz _ AT
     ·rw[if_neg n40]at hs
      by_cases n41:((c.toNat:Int)==41)=true
      ·rw[if_pos n41]at hs
       have wd:ao (deep -1)=deep -1:=ak AT AT
       by_cases h0:(deep -1==0)=true
       ·rw[if_pos h0]at hs
        refine⟨_,aw gd (ai np (bH (ag n92 (ag n13 (ag n40 (aw n41 rfl)))) (aw (by show(ao (deep -1)==0)=true;rw[wd];exact h0) rfl))),.inr ⟨_,rfl,?_⟩⟩
        rw[<-hs]
        show(o,ao ((j:Int)+1),(0:Int))=_
        rw[hw]
       ·rw[if_neg h0]at hs
        refine⟨_,aw gd (ai np (bH (ag n92 (ag n13 (ag n40 (aw n41 rfl)))) (ag (by show¬(ao (deep -1)==0)=true;rw[wd];exact h0) (ai By rfl)))),⟨j+1,f,hw,AT,AT,x_,by show 1<=ao _;rw[wd];simp at h0;omega,by show ao _<=_;rw[wd];omega,by show zz b last f (ao _) (o++[c]) (j+1)=T;rw[wd];exact hs⟩,?_⟩
        show b.length -(ao _).toNat<_
        rw[hw];exact Cz _ AT
      ·rw[if_neg n41]at hs
       refine⟨_,aw gd (ai np (bH (ag n92 (ag n13 (ag n40 (ag n41 rfl)))) (ag (OK 0 _ c d1) (ai By rfl)))),⟨j+1,f,hw,AT,AT,x_,d1,w_,hs⟩,?_⟩
       show b.length -(ao _).toNat<_
       rw[hw];exact Cz _ AT
 ·rintro z (⟨rfl,h⟩|⟨x,rfl,hx⟩)
  ·exact⟨_,rfl,.inl ⟨rfl,h⟩⟩
  ·exact⟨_,rfl,.inr ⟨x,rfl,hx⟩⟩
 ·rintro z (⟨rfl,rfl⟩|⟨x,rfl,hx⟩)
  ·exact⟨_,ah (Yf last) rfl,rfl⟩
  ·exact⟨x,rfl,hx⟩
end
section
variable(w:List UInt8)
def M6:Nat->List UInt8->Nat->List UInt8⊕Int
 |0,out,_=>.inl out
 |f+1,out,i=>match w[i]? with
  |none=>.inl out
  |some c=>if(c.toNat:Int)==35 then(match w[i+2]? with
    |none=>.inr 17
    |some y=>match w[i+1]? with
     |none=>.inr 17
     |some x=>if decide (zS x<0)||decide (zS y<0)then .inr 17 else M6 f (out++[eR (ao (ao (16*zS x)+zS y))]) (i+3))
   else M6 f (out++[c]) (i+1)
def Rn(o:List UInt8):aa×Int:=if decide ((o.length:Int)>127)||decide (Lib.indexByte o 0>=0)then(⟨0,0,⟨[]⟩,[]⟩,17)else(⟨5,0,⟨o⟩,[]⟩,0)
def LR:aa×Int:=match M6 w (w.length+1) [] 0 with
 |.inr e=>(⟨0,0,⟨[]⟩,[]⟩,e)
 |.inl o=>Rn o
variable{w}
def abf(hb:w.length<1048576):oF ⟨w⟩=some (LR w):=by
 have bP:room=140737488355328:=rfl
 have key:∃x,oF ⟨w⟩=some x/\x=LR w:=by
  unfold oF
  unfold LR
  generalize hT:M6 w (w.length+1) [] 0=T
  refine gy (fun z=>z=T) (lW (fun z=>z=T) (cF (fun(s:List UInt8×Int)=>∃(j f:Nat),s.2=(j:Int)/\j<=w.length/\w.length -j+1<=f/\s.1.length<=j/\M6 w f s.1 j=T) (fun s=>w.length -s.2.toNat) _
   ⟨0,w.length+1,rfl,Nat.zero_le _,AT,Nat.zero_le _,hT⟩ A_ ?_) ?_) ?_
  ·rintro⟨o,a⟩ ⟨j,f,e,hj,hf,ho,hs⟩
   have e:a=(j:Int):=e
   subst e
   have ho:o.length<=j:=ho
   have hs:M6 w f o j=T:=hs
   obtain⟨f,rfl⟩:∃g,f=g+1:=⟨f -1,AT⟩
   rw[M6]at hs
   cases hx:w[j]? with
   |none=>
    have:=eH hx
    rw[hx]at hs
    exact⟨_,ag By rfl,hs⟩
   |some c=>
    obtain⟨hl,hi⟩:=bC hx
    rw[hx]at hs
    simp only at hs
    have w1:ao ((j:Int)+1)=((j+1:Nat):Int):=kK AT
    have w2:ao ((j:Int)+2)=((j+2:Nat):Int):=Z_
    have w3:ao (((j+2:Nat):Int)+1)=((j+3:Nat):Int):=kK AT
    have gd:(decide ((j:Int)<(w.length:Int)))=true:=By
    have np:0<=(j:Int)/\(j:Int)<w.length:=AT
    simp only[hi,w1,w2]
    by_cases n35:((c.toNat:Int)==35)=true
    ·rw[if_pos n35]at hs
     cases hy:w[j+2]? with
     |none=>
      have hl2:=eH hy
      rw[hy]at hs
      have dg:decide (((j+2:Nat):Int)>=(w.length:Int))=true:=By
      simp_all
     |some y=>
      obtain⟨hl2,hi2⟩:=bC hy
      rw[hy]at hs
      obtain⟨x,hz⟩:∃x,w[j+1]? =some x:=⟨w[j+1],List.getElem?_eq_getElem AT⟩
      obtain⟨hl3,hi3⟩:=bC hz
      rw[hz]at hs
      simp only at hs
      have dg:decide (((j+2:Nat):Int)>=(w.length:Int))=false:=By
      simp only[hi2,hi3,dg,Bool.false_or,Bool.not_false]
      by_cases hxn:zS x<0
      ·rw[if_pos A_]at hs
       exact⟨_,aw gd (ai np (bH (aw n35 (ai AT (ah (y5 x) (ai AT (ah (whn A_) (aw By rfl)))))) rfl)),hs⟩
      ·have dx:decide (zS x<0)=false:=by simpa using hxn
       by_cases hyn:zS y<0
       ·rw[if_pos A_]at hs
        exact⟨_,aw gd (ai np (bH (aw n35 (ai AT (ah (y5 x) (ai AT (ah (by rw[dx];exact y5 y) (aw A_ rfl)))))) rfl)),hs⟩
       ·rw[if_neg By]at hs
        refine⟨_,aw gd (ai np (bH (aw n35 (ai AT (ah (y5 x) (ai AT (ah (by rw[dx];exact y5 y) (ag By (ai AT (ah (y5 x) (ai AT (ah (y5 y) rfl)))))))))) (ai By rfl))),⟨j+3,f,w3,AT,AT,A_,hs⟩,?_⟩
        grind
    ·rw[if_neg n35]at hs
     refine⟨_,aw gd (ai np (bH (ag n35 rfl) (ai By rfl))),⟨j+1,f,w1,AT,AT,A_,hs⟩,?_⟩
     grind
  ·rintro z rfl
   cases z with
   |inl o=>simp_all
   |inr e=>simp_all
  ·rintro z rfl
   cases z with
   |inr e=>simp_all
   |inl o=>
    show∃x,(aL (eu (!(decide ((o.length:Int)>127))) 0 (fI o 0)) fun r22=>_)=some x/\x=Rn o
    unfold Rn
    cases hd:decide ((o.length:Int)>127)with
    |true=>simp_all
    |false=>
     rw[Bool.not_false,Bool.false_or]
     by_cases h:(decide (Lib.indexByte o 0>=0))=true
     ·exact⟨_,ah (show eu true 0 (fI o 0)=some _ from rfl) (aw h rfl),by rw[if_pos h]⟩
     ·exact⟨_,ah (show eu true 0 (fI o 0)=some _ from rfl) (ag h rfl),by rw[if_neg h]⟩
 grind
theorem aaZ:∀(l:List UInt8),(decide (Lib.indexByte l 0>=0))=l.any fun c=>(c.toNat:Int)==0
 |[]=>rfl
 |c::l=>by
  have e:(c==0)=((c.toNat:Int)==0):=of_decide_eq_true (gr (fun c=>decide ((c==0)=((c.toNat:Int)==0))) C_ c)
  have hge:=Lib.indexByte_ge l 0
  rw[Lib.indexByte,List.any_cons,<-aaZ l,e]
  grind
def acu(hb:w.length<1048576):kZ w=some (LR w):=by
 have bP:room=140737488355328:=rfl
 have key:∃x,kZ w=some x/\x=LR w:=by
  unfold kZ
  unfold LR
  generalize hT:M6 w (w.length+1) [] 0=T
  refine gy (fun z=>z=T/\∀o,z=.inl o->o.length<=w.length) (lW (fun z=>z=T/\∀o,z=.inl o->o.length<=w.length) (cF (fun(s:List UInt8×Int)=>∃(j f:Nat),s.2=(j:Int)/\j<=w.length/\w.length -j+1<=f/\s.1.length<=j/\M6 w f s.1 j=T) (fun s=>w.length -s.2.toNat) _
   ⟨0,w.length+1,rfl,Nat.zero_le _,AT,Nat.zero_le _,hT⟩ A_ ?_) ?_) ?_
  ·rintro⟨o,a⟩ ⟨j,f,e,hj,hf,ho,hs⟩
   have e:a=(j:Int):=e
   subst e
   have ho:o.length<=j:=ho
   have hs:M6 w f o j=T:=hs
   obtain⟨f,rfl⟩:∃g,f=g+1:=⟨f -1,AT⟩
   rw[M6]at hs
   cases hx:w[j]? with
   |none=>
    have:=eH hx
    rw[hx]at hs
    refine⟨_,ag By rfl,hs,fun o' h=>?_⟩
    grind
   |some c=>
    obtain⟨hl,hi⟩:=bC hx
    rw[hx]at hs
    simp only at hs
    have w1:ao ((j:Int)+1)=((j+1:Nat):Int):=kK AT
    have w2:ao ((j:Int)+2)=((j+2:Nat):Int):=Z_
    have w3:ao (((j+2:Nat):Int)+1)=((j+3:Nat):Int):=kK AT
    have gd:(decide ((j:Int)<(w.length:Int)))=true:=By
    have np:0<=(j:Int)/\(j:Int)<w.length:=AT
    simp only[hi,w1,w2]
    by_cases n35:((c.toNat:Int)==35)=true
    ·rw[if_pos n35]at hs
     have m35:¬((c.toNat:Int)!=35)=true:=by simpa using n35
     have abD:∀o:List UInt8,(Sum.inr (17:Int):List UInt8⊕Int)=.inl o->o.length<=w.length:=fun o h=>F_
     cases hy:w[j+2]? with
     |none=>
      have hl2:=eH hy
      rw[hy]at hs
      have dg:decide (((j+2:Nat):Int)>=(w.length:Int))=true:=By
      simp_all
     |some y=>
      obtain⟨hl2,hi2⟩:=bC hy
      rw[hy]at hs
      obtain⟨x,hz⟩:∃x,w[j+1]? =some x:=⟨w[j+1],List.getElem?_eq_getElem AT⟩
      obtain⟨hl3,hi3⟩:=bC hz
      rw[hz]at hs
      simp only at hs
      have dg:decide (((j+2:Nat):Int)>=(w.length:Int))=false:=By
      simp only[hi2,hi3,dg,Bool.false_or,Bool.not_false]
      by_cases hxn:zS x<0
      ·rw[if_pos A_]at hs
       exact⟨_,aw gd (bH (ai np (ag m35 (ai AT (ah (D9 x) (ai AT (ah (whn A_) (aw By rfl))))))) rfl),hs,abD⟩
      ·have dx:decide (zS x<0)=false:=by simpa using hxn
       by_cases hyn:zS y<0
       ·rw[if_pos A_]at hs
        exact⟨_,aw gd (bH (ai np (ag m35 (ai AT (ah (D9 x) (ai AT (ah (by rw[dx];exact D9 y) (aw A_ rfl))))))) rfl),hs,abD⟩
       ·rw[if_neg By]at hs
        refine⟨_,aw gd (bH (ai np (ag m35 (ai AT (ah (D9 x) (ai AT (ah (by rw[dx];exact D9 y) (ag By (ai AT (ah (D9 x) (ai AT (ah (D9 y) (ai By rfl)))))))))))) rfl),⟨j+3,f,w3,AT,AT,A_,hs⟩,?_⟩
        grind
    ·rw[if_neg n35]at hs
     refine⟨_,aw gd (bH (ai np (aw A_ (ai np (ai By rfl)))) rfl),⟨j+1,f,w1,AT,AT,A_,hs⟩,?_⟩
     grind
  ·rintro z ⟨rfl,h⟩
   cases z with
   |inl o=>simp_all
   |inr e=>simp_all
  ·rintro z ⟨rfl,h⟩
   cases z with
   |inr e=>simp_all
   |inl o=>
    have ho:=h o rfl
    show∃x,(nD _ _ _)=some x/\x=Rn o
    unfold Rn
    rw[aaZ]
    have VW:∀j,(o.drop j).any (fun c=>(c.toNat:Int)==0)=(match o[j]? with|none=>false|some c=>((c.toNat:Int)==0)||(o.drop (j+1)).any fun c=>(c.toNat:Int)==0):=fun j=>by grind [List.drop_eq_nil_of_le,eH,List.getElem?_eq_some_iff,List.drop_eq_getElem_cons]
    refine gy (fun z=>if(o.any fun c=>(c.toNat:Int)==0)=true then z=.inr 17 else z=.inl ()) (lW (fun z=>if(o.any fun c=>(c.toNat:Int)==0)=true then z=.inr 17 else z=.inl ()) (cF (fun(s:Int)=>∃j:Nat,s=(j:Int)/\j<=o.length/\(o.drop j).any (fun c=>(c.toNat:Int)==0)=o.any (fun c=>(c.toNat:Int)==0)) (fun s=>o.length -s.toNat) _ ⟨0,rfl,Nat.zero_le _,rfl⟩ A_ ?_) ?_) ?_
    ·rintro s ⟨j,rfl,hj,hs⟩
     rw[VW]at hs
     cases hx:o[j]? with
     |none=>
      have:=eH hx
      rw[hx]at hs
      refine⟨_,ag By rfl,?_⟩
      grind
     |some c=>
      obtain⟨hl,hi⟩:=bC hx
      rw[hx]at hs
      simp only at hs
      by_cases h0:((c.toNat:Int)==0)=true
      ·refine⟨_,aw By (ai AT (aw A_ rfl)),?_⟩
       grind
      ·have e0:((c.toNat:Int)==0)=false:=S_
       rw[e0,Bool.false_or]at hs
       have w1:ao ((j:Int)+1)=((j+1:Nat):Int):=kK AT
       refine⟨_,aw By (ai AT (ag A_ rfl)),⟨j+1,w1,AT,hs⟩,?_⟩
       grind
    ·intro z hz
     cases ha:(o.any fun c=>(c.toNat:Int)==0)with
     |true=>simp_all
     |false=>simp_all
    ·intro z hz
     cases ha:(o.any fun c=>(c.toNat:Int)==0)with
     |true=>simp_all
     |false=>
      rw[ha,if_neg nF]at hz;subst hz
      rw[Bool.or_false]
      by_cases h1:(decide ((o.length:Int)>127))=true
      ·simp_all
      ·exact⟨_,ag h1 rfl,A_⟩
 grind
end
def m3:List UInt8->List UInt8×Option (List UInt8)
 |[]=>([],none)
 |c::l=>if(c.toNat:Int)==46 then([],some l)else(c::(m3 l).1,(m3 l).2)
def A8:∀(l:List UInt8),(match(m3 l).2 with
 |none=>Lib.indexByte l 46=-1/\(m3 l).1=l
 |some r=>Lib.indexByte l 46=((m3 l).1.length:Int)/\l=(m3 l).1++46::r)
 |[]=>⟨rfl,rfl⟩
 |c::l=>by
  have e:(c==46)=((c.toNat:Int)==46):=of_decide_eq_true (gr (fun c=>decide ((c==46)=((c.toNat:Int)==46))) C_ c)
  have ih:=A8 l
  rw[m3,Lib.indexByte,e]
  grind
def On(l:List UInt8):(m3 l).1.length+((m3 l).2.getD []).length<=l.length:=by
 have:=A8 l
 grind
def nU:Nat->List UInt8->Int
 |0,_=>0
 |k+1,l=>(match l with
  |[]=>0
  |c::l=>((c.toNat:Int) -48)*10^k+nU k l)
def ye:∀(k:Nat)(l:List UInt8),l.all cD=true->0<=nU k l/\nU k l<10^k
 |0,_,_=>⟨Int.le_refl _,by show(0:Int)<1;decide⟩
 |k+1,[],_=>⟨Int.le_refl _,by show(0:Int)<_;exact Int.pow_pos BY⟩
 |k+1,c::l,h=>by
  rw[List.all_cons,Bool.and_eq_true]at h
  have ih:=ye k l h.2
  have hd:48<=(c.toNat:Int)/\(c.toNat:Int)<=57:=Xc3
  show 0<=((c.toNat:Int) -48)*10^k+nU k l/\((c.toNat:Int) -48)*10^k+nU k l<_
  have hp:(0:Int)<10^k:=Int.pow_pos BY
  have e:(10:Int)^(k+1)=10*10^k:=by rw[Int.pow_succ,Int.mul_comm]
  rw[e]
  have h1:0<=((c.toNat:Int) -48)*10^k:=Int.mul_nonneg AT AT
  have h2:((c.toNat:Int) -48)*10^k<=9*10^k:=Int.mul_le_mul_of_nonneg_right AT AT
  omega
theorem BT:∀(l:List UInt8)(n:Int),0<=n->l.all cD=true->l.length<=6->(n+1)*10^l.length<=1000000->ml l (n,false)=(n*10^l.length+nU l.length l,0)
 |[],n,_,_,_,_=>by show(n,(0:Int))=(n*1+0,0);grind
 |c::l,n,h0,h,hl,hb=>by
  rw[List.all_cons,Bool.and_eq_true]at h
  have hd:48<=(c.toNat:Int)/\(c.toNat:Int)<=57:=Xc3
  have hp:(0:Int)<10^l.length:=Int.pow_pos BY
  have e:(10:Int)^(l.length+1)=10*10^l.length:=by rw[Int.pow_succ,Int.mul_comm]
  rw[List.length_cons,e]at hb
  have hb':(10*n+((c.toNat:Int) -48)+1)*10^l.length<=1000000:=by
   refine Int.le_trans (Int.mul_le_mul_of_nonneg_right (c:=10^l.length) (show 10*n+((c.toNat:Int) -48)+1<=(n+1)*10 by omega) AT) ?_
   rw[Int.mul_assoc];exact hb
  have hn:n<=1000000:=by
   have:n+1<=(n+1)*(10*10^l.length):=by
    have:(n+1)*1<=(n+1)*(10*10^l.length):=Int.mul_le_mul_of_nonneg_left AT AT
    omega
   omega
  have hs:gH (n,false) c=(10*n+((c.toNat:Int) -48),false):=by
   unfold gH
   have:decide (n>(2147483647 -((c.toNat:Int) -48)).tdiv 10)=false:=by
    rw[decide_eq_false_iff_not,Int.tdiv_eq_ediv_of_nonneg AT]
    omega
   simp[this]
  rw[ml,if_pos h.1,hs,BT l _ AT h.2 A_ hb',List.length_cons,e]
  grind [nU,Int.add_mul,Int.mul_comm,Int.mul_assoc]
theorem L5:∀(k:Nat)(l:List UInt8),nU k ((l++List.replicate k 48).take k)=nU k l
 |0,_=>rfl
 |k+1,[]=>by
  have z:∀(k m:Nat),nU k (List.replicate m (48:UInt8))=0:=by
   intro k
   induction k with
   |zero=>intro m;rfl
   |succ k ih=>
    intro m
    cases m with
    |zero=>rfl
    |succ m=>grind [nU,List.replicate]
  grind
 |k+1,c::l=>by
  rw[List.cons_append,List.take_succ_cons]
  show((c.toNat:Int) -48)*10^k+nU k ((l++List.replicate (k+1) 48).take k)=((c.toNat:Int) -48)*10^k+nU k l
  congr 1
  rw[<-L5 k l,List.replicate_succ',<-List.append_assoc,List.take_append_of_le_length B_]
def PW(sg:Int)(wh:List UInt8)(ro:Option (List UInt8)):aa×Int:=
 if(wh.length+(ro.getD []).length==0)||!wh.all cD||!(ro.getD []).all cD then(⟨0,0,⟨[]⟩,[]⟩,11)
 else if(ml wh (0,false)).2 !=0 then(⟨0,0,⟨[]⟩,[]⟩,5)
 else match ro with
  |none=>(⟨2,sg*(ml wh (0,false)).1,⟨[]⟩,[]⟩,0)
  |some r=>if(ml wh (0,false)).1*1000000+nU 6 r>2147483647000000 then(⟨0,0,⟨[]⟩,[]⟩,5)else(⟨3,sg*((ml wh (0,false)).1*1000000+nU 6 r),⟨[]⟩,[]⟩,0)
def NP(sg:Int)(body:List UInt8):aa×Int:=PW sg (m3 body).1 (m3 body).2
def I6(s:List UInt8):aa×Int:=match s with
 |[]=>NP 1 []
 |c::r=>if(c.toNat:Int)==45 then NP (-1) r else if(c.toNat:Int)==43 then NP 1 r else NP 1 (c::r)
def Ic:∀(l:List UInt8)(n:Int)(o:Bool),0<=n->n<=2147483647->l.all cD=true->0<=(ml l (n,o)).1/\(ml l (n,o)).1<=2147483647/\((ml l (n,o)).2=0\/(ml l (n,o)).2=5)
 |[],n,o,h0,h1,_=>by
  rw[ml]
  grind
 |c::l,n,o,h0,h1,h=>by
  rw[List.all_cons,Bool.and_eq_true]at h
  have hd:48<=(c.toNat:Int)/\(c.toNat:Int)<=57:=Xc3
  rw[ml,if_pos h.1]
  cases hs:gH (n,o) c with
  |mk m p=>
   have hm:0<=m/\m<=2147483647:=by
    unfold gH at hs
    simp only at hs
    split at hs
    ·grind
    ·grind
   exact Ic l m p hm.1 hm.2 h.2
def Sc(s:List UInt8)(x:UInt8):cY ⟨s⟩ ⟨[x]⟩=some (match s with
 |[]=>false
 |c::_=>c==x):=by
 unfold cY cW
 cases s with
 |nil=>simp_all
 |cons c r=>
  refine ah (ai B_ rfl) ?_
  have e1:decide ((((⟨c::r⟩:aC).b.length:Nat):Int)>=(((⟨[x]⟩:aC).b.length:Nat):Int))=true:=By
  have e2:(aC.mk (part (c::r) 0 ((((⟨[x]⟩:aC).b.length:Nat):Int)))).b=[c]:=by unfold part;simp
  simp_all
def Wa(body:List UInt8)(hb:body.length<1048576):lF ⟨body⟩ ⟨[46]⟩=some (⟨(m3 body).1⟩,⟨(m3 body).2.getD []⟩,(m3 body).2.isSome):=by
 unfold lF dZ
 have WG:gP ⟨body⟩ ⟨[46]⟩=some (Lib.indexByte body 46):=rfl
 have:=A8 body
 refine ah (a:=(⟨(m3 body).1⟩,⟨(m3 body).2.getD []⟩,(m3 body).2.isSome)) (ah WG ?_) rfl
 cases h:(m3 body).2 with
 |none=>grind
 |some r=>
  rw[h]at this
  obtain⟨i1,i2⟩:=this
  have hl:=congrArg List.length i2
  rw[List.length_append,List.length_cons]at hl
  rw[i1]
  generalize(m3 body).1=wh at*
  have w1:ao ((wh.length:Int)+(((⟨[46]⟩:aC).b.length:Nat):Int))=((wh.length+1:Nat):Int):=by
   show ao ((wh.length:Int)+1)=_
   exact kK AT
  rw[w1]
  refine aw B_ (ai A_ (ai A_ ?_))
  have p1:part body 0 (wh.length:Int)=wh:=by
   unfold part
   rw[show(0:Int).toNat=0 from rfl,List.drop_zero,Int.sub_zero,Int.toNat_natCast]
   conv=>lhs;rw[i2]
   exact List.take_left
  have p2:part body ((wh.length+1:Nat):Int) (body.length:Int)=r:=by
   unfold part
   rw[Int.toNat_natCast,show((body.length:Int) -((wh.length+1:Nat):Int)).toNat=r.length by omega]
   conv=>lhs;rw[i2]
   rw[List.drop_append,List.drop_eq_nil_of_le AT,List.nil_append,show wh.length+1 -wh.length=1 by omega]
   show(r.take r.length)=r
   exact List.take_length
  grind
theorem nb0(k:Nat):((k:Int)==0)=(k==0):=A_
def Xn(r:List UInt8)(hb:r.length<1048576)(h:r.all cD=true):iI ⟨r⟩=some (nU 6 r):=by
 unfold iI
 have hl:((aC.mk (r++(aC.mk [48,48,48,48,48,48]).b)).b).length=r.length+6:=B_
 have e:(aC.mk (part (aC.mk (r++(aC.mk [48,48,48,48,48,48]).b)).b 0 6)).b=(r++List.replicate 6 48).take 6:=by unfold part;rfl
 refine ai (by grind [Iw]) (ai ⟨Int.le_refl _,BY,A_⟩ (ah (a:=(nU 6 r,0)) ?_ rfl))
 unfold mF
 rw[e]
 have hlen:((r++List.replicate 6 48).take 6).length=6:=B_
 have dY:((r++List.replicate 6 48).take 6).all cD=true:=by
  rw[List.all_eq_true]
  intro x hx
  rcases List.mem_append.1 (List.mem_of_mem_take hx)with h1|h1
  ·grind
  ·rw[(List.mem_replicate.1 h1).2];rfl
 rw[if_neg A_,BT _ 0 (Int.le_refl _) dY AT A_,hlen,L5]
 simp
def P2{s:List UInt8}{F:Int×aC->Option (aa×Int)}{o:Option (Int×aC)}{sg:Int}{body:List UInt8}{r:aa×Int}(h:o=some (sg,⟨body⟩))(k:F (sg,⟨body⟩)=some r)(e:I6 s=r):jn o F=some (I6 s):=P_
def afg(s:List UInt8)(hb:s.length<1048576):oc ⟨s⟩=some (I6 s):=by
 unfold oc
 obtain⟨sg,body,h1,h2,h3,h4⟩:∃(sg:Int)(body:List UInt8),(aL (cY ⟨s⟩ (aC.mk [45])) fun r4=>
  if r4 then
   aI (0<=(1:Int)/\1<=(((⟨s⟩:aC).b.length:Nat):Int)/\(((⟨s⟩:aC).b.length:Nat):Int)<=(((⟨s⟩:aC).b.length:Nat):Int))<|
   some ((-1),aC.mk (part s 1 (s.length:Int)))
  else
   aL (cY ⟨s⟩ (aC.mk [43])) fun r5=>
   if r5 then
    aI (0<=(1:Int)/\1<=(((⟨s⟩:aC).b.length:Nat):Int)/\(((⟨s⟩:aC).b.length:Nat):Int)<=(((⟨s⟩:aC).b.length:Nat):Int))<|
    some (1,aC.mk (part s 1 (s.length:Int)))
   else
    some (1,⟨s⟩))=some (sg,⟨body⟩)/\I6 s=NP sg body/\(sg=1\/sg=-1)/\body.length<=s.length:=by
  cases s with
  |nil=>exact⟨1,[],ah (Sc [] 45) (ag nF (ah (Sc [] 43) (ag nF rfl))),rfl,.inl rfl,Nat.le_refl _⟩
  |cons c r=>
   have e45:(c==45)=((c.toNat:Int)==45):=of_decide_eq_true (gr (fun c=>decide ((c==45)=((c.toNat:Int)==45))) C_ c)
   have e43:(c==43)=((c.toNat:Int)==43):=of_decide_eq_true (gr (fun c=>decide ((c==43)=((c.toNat:Int)==43))) C_ c)
   have pr:part (c::r) 1 ((c::r).length:Int)=r:=by
    unfold part
    rw[show(1:Int).toNat=1 from rfl,List.length_cons,show(((r.length+1:Nat):Int) -1).toNat=r.length by omega]
    show r.take r.length=r
    exact List.take_length
   have nd:0<=(1:Int)/\1<=(((c::r).length:Nat):Int)/\(((c::r).length:Nat):Int)<=(((c::r).length:Nat):Int):=by rw[List.length_cons];omega
   have h45:=Sc (c::r) 45
   have h43:=Sc (c::r) 43
   simp only[e45]at h45
   simp only[e43]at h43
   by_cases c45:((c.toNat:Int)==45)=true
   ·refine⟨-1,r,ah h45 (aw c45 (ai nd ?_)),Xg3,.inr rfl,B_⟩
    rw[pr]
   ·by_cases c43:((c.toNat:Int)==43)=true
    ·refine⟨1,r,ah h45 (ag c45 (ah h43 (aw c43 (ai nd ?_)))),Xg3,.inl rfl,B_⟩
     rw[pr]
    ·exact⟨1,c::r,ah h45 (ag c45 (ah h43 (ag c43 rfl))),Xg3,.inl rfl,Nat.le_refl _⟩
 refine P2 (r:=NP sg body) h1 ?_ h2
 refine ah (Wa body AT) ?_
 have hlen:=On body
 unfold NP
 generalize hwr:m3 body=q at hlen
 obtain⟨wh,ro⟩:=q
 show(aL (eu (!((ao ((wh.length:Int)+((ro.getD []).length:Int)))==0)) false (nQ ⟨wh⟩)) _)=some (PW sg wh ro)
 unfold PW
 have wl:ao ((wh.length:Int)+((ro.getD []).length:Int))=((wh.length+(ro.getD []).length:Nat):Int):=by
  have hlen:wh.length+(ro.getD []).length<=body.length:=hlen
  rw[ak AT AT];rfl
 have hlen:wh.length+(ro.getD []).length<=body.length:=hlen
 have wz:((ao ((wh.length:Int)+((ro.getD []).length:Int)))==0)=((wh.length+(ro.getD []).length)==0):=by rw[wl];exact nb0 _
 simp only[wz]
 cases hz:((wh.length+(ro.getD []).length)==0)with
 |true=>simp_all
 |false=>
  rw[Bool.false_or,Bool.not_false,si]
  refine ah (show nQ ⟨wh⟩=some (wh.all cD) from rfl) ?_
  cases ha:wh.all cD with
  |false=>simp_all
  |true=>
   rw[Bool.not_true,Bool.false_or,Bool.false_or,Bool.not_false,si]
   refine ah (show nQ ⟨ro.getD []⟩=some ((ro.getD []).all cD) from rfl) ?_
   cases hr:(ro.getD []).all cD with
   |false=>grind
   |true=>
    rw[Bool.not_true,if_neg nF]
    refine ag nF (ai (by grind [Iw]) ?_)
    have d0:gH (0,false) 48=(0,false):=BY
    have hd:mF (aC.mk ((aC.mk [48]).b++(⟨wh⟩:aC).b))=some (ml wh (0,false)):=by
     show some (ml (48::wh) (0,false))=_
     rw[ml,if_pos (show cD 48=true from rfl),d0]
    refine ah hd ?_
    have rg:=Ic wh 0 false (Int.le_refl _) BY ha
    generalize ml wh (0,false)=n at rg
    obtain⟨n,e⟩:=n
    obtain⟨n0,n1,n2⟩:=rg
    have n0:0<=n:=n0
    have n1:n<=2147483647:=n1
    have n2:e=0\/e=5:=n2
    rcases n2 with rfl|rfl
    ·refine ag nF ?_
     have h0:¬(((n,(0:Int)).2 !=0)=true):=by show¬(((0:Int)!=0)=true);decide
     rw[if_neg h0]
     cases ro with
     |none=>
      refine aw rfl ?_
      show some ((⟨2,ao (sg*n),⟨[]⟩,[]⟩:aa),(0:Int))=some (⟨2,sg*n,⟨[]⟩,[]⟩,0)
      rw[ak A_ A_]
     |some r=>
      have hr:r.all cD=true:=hr
      have hrl:r.length<=body.length:=by simp only[Option.getD_some]at hlen;omega
      refine ag nF (ah (Xn r AT hr) ?_)
      have pr:=ye 6 r hr
      have p6:nU 6 r<1000000:=pr.2
      have wN:ao (sg*(ao ((ao (n*1000000))+nU 6 r)))=sg*(n*1000000+nU 6 r):=by rw[ak (n:=n*1000000) AT AT,ak (n:=n*1000000+nU 6 r) AT AT,ak A_ A_]
      simp only[wN]
      have ahw:ao (0 -2147483647000000)=-2147483647000000:=BY
      by_cases hov:n*1000000+nU 6 r>2147483647000000
      ·rw[if_pos hov]
       refine ah (a:=2) ?_ (aw rfl rfl)
       unfold js
       refine bH (z:=.inl 2147483647000000) (ag A_ (aw rfl rfl)) (aw ?_ rfl)
       grind
      ·rw[if_neg hov]
       refine ah (a:=0) ?_ (ag BY rfl)
       unfold js
       refine bH (z:=.inl 2147483647000000) (ag A_ (aw rfl rfl)) (ag ?_ rfl)
       grind
    grind
def Hz(l:List UInt8):Int×Bool:=l.foldl gH (0,false)
theorem EG:∀(l:List UInt8)(q:Int×Bool),l.all cD=true->ml l q=if(l.foldl gH q).2 then(0,5)else((l.foldl gH q).1,0)
 |[],q,_=>rfl
 |c::l,q,h=>by
  rw[List.all_cons,Bool.and_eq_true]at h
  rw[ml,if_pos h.1,EG l _ h.2];rfl
def BZ:∀(l:List UInt8)(q:Int×Bool),l.all cD=true->0<=q.1/\q.1<=2147483647->0<=(l.foldl gH q).1/\(l.foldl gH q).1<=2147483647
 |[],q,_,h=>h
 |c::l,q,h,hq=>by
  rw[List.all_cons,Bool.and_eq_true]at h
  have hd:48<=(c.toNat:Int)/\(c.toNat:Int)<=57:=Xc3
  refine BZ l _ h.2 ?_
  unfold gH
  simp only
  split
  ·exact hq
  ·rename_i hno
   have:¬q.1>(2147483647 -((c.toNat:Int) -48)).tdiv 10:=by
    intro hh
    apply hno
    rw[decide_eq_true hh,Bool.or_true]
   rw[Int.tdiv_eq_ediv_of_nonneg AT]at this
   show 0<=10*q.1+((c.toNat:Int) -48)/\10*q.1+((c.toNat:Int) -48)<=2147483647
   omega
def JG:Nat->Int
 |0=>100000
 |1=>10000
 |2=>1000
 |3=>100
 |4=>10
 |5=>1
 |_=>0
theorem L4:∀(k:Nat)(l:List UInt8)(c:UInt8),nU k (l++[c])=nU k l+(if l.length<k then((c.toNat:Int) -48)*10^(k -1 -l.length)else 0)
 |0,l,c=>by simp[nU]
 |k+1,[],c=>by
  show((c.toNat:Int) -48)*10^k+nU k []=0+if 0<k+1 then((c.toNat:Int) -48)*10^k else 0
  rw[if_pos AT]
  have:nU k []=0:=by cases k<;>rfl
  omega
 |k+1,x::l,c=>by
  rw[List.cons_append]
  show((x.toNat:Int) -48)*10^k+nU k (l++[c])=((x.toNat:Int) -48)*10^k+nU k l+_
  rw[L4 k l c,List.length_cons,Int.add_assoc]
  congr 2
  by_cases h:l.length<k
  ·rw[if_pos h,if_pos AT,show k+1 -1 -(l.length+1)=k -1 -l.length by omega]
  ·rw[if_neg h,if_neg AT]
def V2(l:List UInt8)(c:UInt8):nU 6 (l++[c])=nU 6 l+JG l.length*((c.toNat:Int) -48):=by
 rw[L4,Int.mul_comm]
 congr 1
 by_cases h:l.length<6
 ·rw[if_pos h]
  rcases(show l.length=0\/l.length=1\/l.length=2\/l.length=3\/l.length=4\/l.length=5 by omega)with h|h|h|h|h|h<;>rw[h]<;>rfl
 ·rw[if_neg h]
  obtain⟨m,hm⟩:∃m,l.length=m+6:=⟨l.length -6,AT⟩
  rw[hm]
  rw[show JG (m+6)=0 from rfl,Int.zero_mul]
def Lk:∀(l:List UInt8),∀c∈(m3 l).1,((c.toNat:Int)==46)=false
 |[],c,h=>by cases h
 |x::l,c,h=>by
  rw[m3]at h
  cases hx:((x.toNat:Int)==46)with
  |true=>rw[if_pos hx]at h;cases h
  |false=>
   rw[if_neg (by rw[hx];decide)]at h
   rcases List.mem_cons.1 h with rfl|h
   ·exact hx
   ·exact Lk l c h
def VI:Option (List UInt8)->List UInt8
 |none=>[]
 |some r=>46::r
def aaH:Option (List UInt8)->Option UInt8
 |none=>none
 |some _=>some 46
def MJ(l:List UInt8):l=(m3 l).1++VI (m3 l).2:=by
 have:=A8 l
 cases h:(m3 l).2 with
 |none=>rw[h]at this;rw[this.2];exact(List.append_nil _).symm
 |some r=>rw[h]at this;exact this.2
theorem BS(l:List UInt8)(c:UInt8):Hz (l++[c])=gH (Hz l) c:=by unfold Hz;rw[List.foldl_append];rfl
def NuI(pre wh:List UInt8)(ro:Option (List UInt8))(s:Int×Int×Int×Int×Bool×Int):Prop:=
 0<=s.1/\s.1<=1000000000000/\
 ((∃i:Nat,s.2.2.2.2.2=((pre.length+i:Nat):Int)/\i<=wh.length/\s.2.2.2.1=-1/\s.2.1=0/\s.2.2.1=(i:Int)/\(wh.take i).all cD=true/\s.2.2.2.2.1=(Hz (wh.take i)).2/\(s.2.2.2.2.1=false->s.1=(Hz (wh.take i)).1))\/
  (∃(r:List UInt8)(i:Nat),ro=some r/\s.2.2.2.2.2=((pre.length+wh.length+1+i:Nat):Int)/\i<=r.length/\s.2.2.2.1=((pre.length+wh.length:Nat):Int)/\s.2.1=nU 6 (r.take i)/\s.2.2.1=((wh.length+i:Nat):Int)/\wh.all cD=true/\(r.take i).all cD=true/\s.2.2.2.2.1=(Hz wh).2/\(s.2.2.2.2.1=false->s.1=(Hz wh).1)))
def NuO(wh:List UInt8)(ro:Option (List UInt8))(z:(Int×Int×Int×Int×Bool)⊕Int):Prop:=match z with
 |.inr e=>e=11/\(wh.all cD&&(ro.getD []).all cD)=false
 |.inl (n,parts,digits,CT,over)=>(wh.all cD&&(ro.getD []).all cD)=true/\digits=((wh.length+(ro.getD []).length:Nat):Int)/\over=(Hz wh).2/\(over=false->n=(Hz wh).1)/\parts=nU 6 (ro.getD [])/\decide (CT>=0)=ro.isSome
def Qu(pre body:List UInt8)(sg:Int)(hs:I6 (pre++body)=NP sg body)(tf:(pre=[]/\sg=1/\∀c r,body=c::r->((c.toNat:Int)==43)=false/\((c.toNat:Int)==45)=false)\/(pre=[43]/\sg=1)\/(pre=[45]/\sg=-1))(hb:(pre++body).length<1048576)(h00:pre++body≠[]):iV ⟨pre++body⟩=some (NP sg body):=by
 have key:∃x,iV ⟨pre++body⟩=some x/\x=NP sg body:=by
  have hp1:pre.length<=1:=by rcases tf with⟨rfl,_⟩|⟨rfl,_⟩|⟨rfl,_⟩<;>simp
  have hbl:(pre++body).length=pre.length+body.length:=List.length_append
  have MW:=MJ body
  have hne:=Lk body
  unfold NP
  generalize hwr:m3 body=q at MW hne
  obtain⟨wh,ro⟩:=q
  have hne:∀c∈wh,((c.toNat:Int)==46)=false:=hne
  have oz:body=wh++VI ro:=MW
  have at1:∀i,i<wh.length->(pre++body)[pre.length+i]? =wh[i]? :=fun i h=>by rw[List.getElem?_append_right AT,Nat.add_sub_cancel_left,oz,List.getElem?_append_left h]
  have at2:(pre++body)[pre.length+wh.length]? =aaH ro:=by
   rw[List.getElem?_append_right AT,Nat.add_sub_cancel_left,oz,List.getElem?_append_right AT,Nat.sub_self]
   cases ro<;>rfl
  have at3:∀r i,ro=some r->(pre++body)[pre.length+wh.length+1+i]? =r[i]? :=fun r i h=>by
   subst h
   rw[List.getElem?_append_right AT,oz,List.getElem?_append_right AT]
   rw[show pre.length+wh.length+1+i -pre.length -wh.length=i+1 by omega]
   rfl
  unfold iV
  refine zM (fun z=>z=(pre.length:Int)) ?_ ?_
  ·rcases tf with⟨rfl,_,h⟩|⟨rfl,_⟩|⟨rfl,_⟩
   ·cases hbo:body with
    |nil=>exact absurd (by rw[hbo];rfl) h00
    |cons c r=>
     obtain⟨h1,h2⟩:=h c r hbo
     have hix:ix (([]:List UInt8)++c::r) 0=c:=rfl
     exact⟨_,ai y_ (ai y_ (ag (by show¬(_&&((((ix (([]:List UInt8)++c::r) 0).toNat:Int)==43)||(((ix (([]:List UInt8)++c::r) 0).toNat:Int)==45)))=true;rw[hix,h1,h2];simp) rfl)),rfl⟩
   ·exact⟨_,ai y_ (ai y_ (aw (by show(decide ((((([43]:List UInt8)++body).length:Nat):Int)>0)&&true)=true;simp<;>omega) rfl)),rfl⟩
   ·exact⟨_,ai y_ (ai y_ (aw (by show(decide ((((([45]:List UInt8)++body).length:Nat):Int)>0)&&true)=true;simp<;>omega) rfl)),rfl⟩
  ·rintro _ rfl
   generalize hS:pre++body=S at*
   refine gy (NuO wh ro) (lW (NuO wh ro) (cF (NuI pre wh ro) (fun s=>S.length -s.2.2.2.2.2.toNat) (NuO wh ro) ⟨Int.le_refl _,by show(0:Int)<=1000000000000;decide,.inl ⟨0,rfl,Nat.zero_le _,rfl,rfl,rfl,rfl,rfl,fun _=>rfl⟩⟩ (by show S.length -_<_;omega) ?_) ?_) ?_
   ·rintro⟨n,parts,digits,CT,over,k⟩ ⟨n0,n1,hI⟩
    have n0:0<=n:=n0
    have n1:n<=1000000000000:=n1
    have rg:∀l:List UInt8,l.all cD=true->0<=(Hz l).1/\(Hz l).1<=2147483647:=fun l h=>BZ l (0,false) h ⟨Int.le_refl _,by show(0:Int)<=2147483647;decide⟩
    rcases hI with⟨i,ek,hi,ep,epa,ed,dY,eo,en⟩|⟨r,i,hr,ek,hi,ep,epa,ed,hwa,dY,eo,en⟩
    ·have ek:k=((pre.length+i:Nat):Int):=ek
     have ep:CT=-1:=ep
     have epa:parts=0:=epa
     have ed:digits=(i:Int):=ed
     have eo:over=(Hz (wh.take i)).2:=eo
     have en:over=false->n=(Hz (wh.take i)).1:=en
     subst ek;subst ep;subst epa;subst ed
     by_cases hlt:i<wh.length
     ·have hx:S[pre.length+i]? =some wh[i]:=by rw[at1 i hlt,List.getElem?_eq_getElem hlt]
      obtain⟨hl,hi2⟩:=bC hx
      have n46:=hne _ (List.getElem_mem hlt)
      have gd:(decide (((pre.length+i:Nat):Int)<(((⟨S⟩:aC).b.length:Nat):Int)))=true:=Xg4
      have np:0<=((pre.length+i:Nat):Int)/\((pre.length+i:Nat):Int)<(((⟨S⟩:aC).b.length:Nat):Int):=Xg5
      have hw1:=kK (n:=pre.length+i) AT
      have DA:wh.take (i+1)=wh.take i++[wh[i]]:=List.take_succ_eq_append_getElem hlt
      generalize hc:wh[i]=c at*
      have m46:¬((((c.toNat:Int)==46)&&decide ((-1:Int)<0))=true):=by rw[n46];decide
      by_cases hd:cD c=true
      ·have hd2:48<=(c.toNat:Int)/\(c.toNat:Int)<=57:=by have:=hd;unfold cD at this;simp at this;omega
       have dg:((decide ((c.toNat:Int)>=48))&&(decide ((c.toNat:Int)<=57))&&decide ((-1:Int)<0))=true:=By
       have NU:(wh.take (i+1)).all cD=true:=by rw[DA,List.all_append,dY,List.all_cons,hd];rfl
       have wi:ao ((i:Int)+1)=((i+1:Nat):Int):=kK AT
       simp only[hi2]
       cases over with
       |true=>
        refine⟨_,aw gd (bH (ai np (ag m46 (ai np (ai (fun _=>np) (aw dg (bQ (ag nT rfl) rfl)))))) rfl),⟨n0,n1,.inl ⟨i+1,hw1,hlt,rfl,rfl,wi,NU,?_,fun e=>aT⟩⟩,?_⟩
        ·show true=_
         rw[DA,BS]
         unfold gH
         simp only
         rw[<-eo];rfl
        ·show S.length -(ao _).toNat<S.length -((pre.length+i:Nat):Int).toNat
         rw[hw1];omega
       |false=>
        have hn:=en rfl
        have hr2:=rg _ dY
        have w8:ao ((ao ((ao (10*n))+(ao ((c.toNat:Int))))) -48)=10*n+((c.toNat:Int) -48):=by rw[ak (n:=10*n) AT AT,ak (n:=(c.toNat:Int)) AT AT,ak (n:=10*n+(c.toNat:Int)) AT AT,ak AT AT];omega
        have dQ:gH (Hz (wh.take i)) c=(if(10*n+((c.toNat:Int) -48)>2147483647)then n else 10*n+((c.toNat:Int) -48),decide (10*n+((c.toNat:Int) -48)>2147483647)):=by
         unfold gH
         rw[<-eo,<-hn,Bool.false_or]
         have:(n>(2147483647 -((c.toNat:Int) -48)).tdiv 10)↔(10*n+((c.toNat:Int) -48)>2147483647):=Xg0
         simp only[this,decide_eq_true_eq]
        refine⟨_,aw gd (bH (ai np (ag m46 (ai np (ai (fun _=>np) (aw dg (bQ (aw rfl (ai np rfl)) rfl)))))) rfl),⟨by show 0<=ao _;rw[w8];omega,by show ao _<=_;rw[w8];omega,.inl ⟨i+1,hw1,hlt,rfl,rfl,wi,NU,?_,fun e=>?_⟩⟩,?_⟩
        ·show(false||decide (ao _>2147483647))=_
         rw[DA,BS,dQ,w8];rfl
        ·have e:(false||decide (ao ((ao ((ao (10*n))+(ao ((c.toNat:Int))))) -48)>2147483647))=false:=e
         show ao _=_
         rw[w8]at e⊢
         rw[DA,BS,dQ]
         rw[Bool.false_or]at e
         rw[if_neg (of_decide_eq_false e)]
        ·show S.length -(ao _).toNat<S.length -((pre.length+i:Nat):Int).toNat
         rw[hw1];omega
      ·have nd:¬(((decide ((c.toNat:Int)>=48))&&(decide ((c.toNat:Int)<=57)))=true):=by
        intro h
        apply hd
        unfold cD
        simp at h⊢;omega
       have nd1:¬(((decide ((c.toNat:Int)>=48))&&(decide ((c.toNat:Int)<=57))&&decide ((-1:Int)<0))=true):=fun h=>nd (by rw[Bool.and_eq_true]at h;exact h.1)
       simp only[hi2]
       refine⟨_,aw gd (bH (ai np (ag m46 (ai np (ai (fun _=>np) (ag nd1 (ai np (ai (fun _=>np) (ag nd rfl)))))))) rfl),rfl,?_⟩
       have:wh.all cD=false:=by
        rw[Bool.eq_false_iff]
        intro h
        exact hd (hc▸List.all_eq_true.1 h _ (List.getElem_mem hlt))
       rw[this];rfl
     ·obtain rfl:i=wh.length:=AT
      rw[List.take_length]at dY eo en
      cases ro with
      |none=>
       have hl:=eH at2
       refine⟨_,ag (by show¬decide (_<(S.length:Int))=true;simp;omega) rfl,?_⟩
       exact⟨by rw[dY];rfl,B_,eo,en,rfl,rfl⟩
      |some r=>
       have at2:S[pre.length+wh.length]? =some 46:=at2
       obtain⟨hl,hi2⟩:=bC at2
       have hw1:=kK (n:=pre.length+wh.length) AT
       simp only[hi2]
       refine⟨_,aw Xg4 (bH (ai Xg5 (aw rfl rfl)) rfl),⟨n0,n1,.inr ⟨r,0,rfl,hw1,Nat.zero_le _,rfl,rfl,rfl,dY,rfl,eo,en⟩⟩,?_⟩
       show S.length -(ao _).toNat<S.length -((pre.length+wh.length:Nat):Int).toNat
       rw[hw1];omega
    ·have ek:k=((pre.length+wh.length+1+i:Nat):Int):=ek
     have ep:CT=((pre.length+wh.length:Nat):Int):=ep
     have epa:parts=nU 6 (r.take i):=epa
     have ed:digits=((wh.length+i:Nat):Int):=ed
     subst hr;subst ek;subst ep;subst epa;subst ed
     have pr:=ye 6 _ dY
     have p6:nU 6 (r.take i)<1000000:=pr.2
     by_cases hlt:i<r.length
     ·have hx:S[pre.length+wh.length+1+i]? =some r[i]:=by rw[at3 r i rfl,List.getElem?_eq_getElem hlt]
      obtain⟨hl,hi2⟩:=bC hx
      have gd:(decide (((pre.length+wh.length+1+i:Nat):Int)<(((⟨S⟩:aC).b.length:Nat):Int)))=true:=Xg4
      have np:0<=((pre.length+wh.length+1+i:Nat):Int)/\((pre.length+wh.length+1+i:Nat):Int)<(((⟨S⟩:aC).b.length:Nat):Int):=Xg5
      have hw1:=kK (n:=pre.length+wh.length+1+i) AT
      have DA:r.take (i+1)=r.take i++[r[i]]:=List.take_succ_eq_append_getElem hlt
      have pl:¬((pre.length+wh.length:Nat):Int)<0:=AT
      have plf:decide (((pre.length+wh.length:Nat):Int)<0)=false:=decide_eq_false pl
      generalize hc:r[i]=c at*
      simp only[hi2,plf,Bool.and_false]
      by_cases hd:((decide ((c.toNat:Int)>=48))&&(decide ((c.toNat:Int)<=57)))=true
      ·have hd2:48<=(c.toNat:Int)/\(c.toNat:Int)<=57:=by simp at hd;omega
       have hdg:cD c=true:=j_
       have NU:(r.take (i+1)).all cD=true:=by rw[DA,List.all_append,dY,List.all_cons,hdg];rfl
       have wi:ao (((wh.length+i:Nat):Int)+1)=((wh.length+(i+1):Nat):Int):=kK AT
       have wd:ao (((pre.length+wh.length+1+i:Nat):Int) -((pre.length+wh.length:Nat):Int))=((i+1:Nat):Int):=H_
       have aeL:0<=JG i/\JG i<=100000:=by unfold JG;split<;>decide
       have hti:(r.take i).length=i:=N_
       have Pb:=V2 (r.take i) c
       rw[hti,<-DA]at Pb
       have pr1:=ye 6 _ NU
       have p61:nU 6 (r.take (i+1))<1000000:=pr1.2
       have hmul:0<=JG i*((c.toNat:Int) -48):=Int.mul_nonneg aeL.1 AT
       have w8:ao (nU 6 (r.take i)+(ao (JG i*(ao ((ao ((c.toNat:Int))) -48)))))=nU 6 (r.take (i+1)):=by rw[ak (n:=(c.toNat:Int)) AT AT,ak (n:=(c.toNat:Int) -48) AT AT,ak (n:=JG i*((c.toNat:Int) -48)) AT AT,Pb,ak AT AT]
       obtain⟨x,hx1,rfl⟩:∃x,(iter (fun((HO,j61):Int×Int)=>
              if(decide (j61<ao (((pre.length+wh.length+1+i:Nat):Int) -((pre.length+wh.length:Nat):Int))))&&(decide (j61<7))then
               some (.inl (ao (Int.tdiv HO 10),ao (j61+1)))
              else
               some (.inr HO)) (100000,1))=some x/\x=JG i:=by
        refine cF (fun(s:Int×Int)=>∃j:Nat,s.2=((j+1:Nat):Int)/\j<=i/\j<=6/\s.1=JG j) (fun s=>(7 -s.2).toNat) (fun z=>z=JG i) ⟨0,rfl,Nat.zero_le _,Nat.zero_le _,rfl⟩ (by show(7 -(1:Int)).toNat<_;decide) ?_
        rintro⟨y,q⟩ ⟨j,eq,hji,hj6,ey⟩
        have eq:q=((j+1:Nat):Int):=eq
        have ey:y=JG j:=ey
        subst eq;subst ey
        by_cases hgo:j<i/\j<6
        ·have wq:ao (((j+1:Nat):Int)+1)=((j+1+1:Nat):Int):=kK AT
         have wb:ao (Int.tdiv (JG j) 10)=JG (j+1):=by rcases(show j=0\/j=1\/j=2\/j=3\/j=4\/j=5 by omega)with rfl|rfl|rfl|rfl|rfl|rfl<;>decide
         refine⟨_,aw (by rw[wd];simp;omega) rfl,⟨j+1,wq,AT,AT,wb⟩,?_⟩
         show(7 -ao _).toNat<(7 -((j+1:Nat):Int)).toNat
         rw[wq];omega
        ·refine⟨_,ag (by rw[wd];simp;omega) rfl,?_⟩
         show JG j=JG i
         rcases(show j=i\/(j=6/\6<=i) by omega)with rfl|⟨rfl,h6⟩
         ·rfl
         ·obtain⟨m,rfl⟩:∃m,i=m+6:=⟨i -6,AT⟩
          rfl
       refine⟨_,aw gd (bH (ai np (ag nF (ai np (ai (fun _=>np) (ag nF (ai np (ai (fun _=>np) (aw hd (bQ hx1 (ai np rfl)))))))))) rfl),⟨n0,n1,.inr ⟨r,i+1,rfl,hw1,hlt,rfl,w8,wi,hwa,NU,eo,en⟩⟩,?_⟩
       show S.length -(ao _).toNat<S.length -((pre.length+wh.length+1+i:Nat):Int).toNat
       rw[hw1];omega
      ·refine⟨_,aw gd (bH (ai np (ag nF (ai np (ai (fun _=>np) (ag nF (ai np (ai (fun _=>np) (ag hd rfl)))))))) rfl),rfl,?_⟩
       have:r.all cD=false:=by
        rw[Bool.eq_false_iff]
        intro h
        have:=List.all_eq_true.1 h _ (List.getElem_mem hlt)
        rw[hc]at this
        apply hd
        unfold cD at this
        simp at this⊢;omega
       show(_&&r.all cD)=false
       rw[this,Bool.and_false]
     ·obtain rfl:i=r.length:=AT
      have hn0:S[pre.length+wh.length+1+r.length]? =none:=by rw[at3 r _ rfl];exact List.getElem?_eq_none_iff.2 (Nat.le_refl _)
      have hl:=eH hn0
      rw[List.take_length]at dY
      refine⟨_,ag (by show¬decide (_<(S.length:Int))=true;simp;omega) rfl,?_⟩
      exact⟨by rw[hwa,Bool.true_and];exact dY,rfl,eo,en,by rw[List.take_length];rfl,by show decide (((pre.length+wh.length:Nat):Int)>=0)=true;simp;omega⟩
   ·intro z hz
    cases z with
    |inl a=>exact⟨_,rfl,hz⟩
    |inr a=>exact⟨_,rfl,hz⟩
   ·intro z hz
    have hd0:ml wh (0,false)=if wh.all cD=true then(if(Hz wh).2 then(0,5)else((Hz wh).1,0))else ml wh (0,false):=by
     split
     ·rename_i h;exact EG wh _ h
     ·rfl
    cases z with
    |inr e=>
     obtain⟨rfl,h⟩:=hz
     refine⟨_,rfl,?_⟩
     have:((wh.length+(ro.getD []).length==0)||!wh.all cD||!(ro.getD []).all cD)=true:=by
      cases h1:wh.all cD with
      |false=>simp
      |true=>rw[h1,Bool.true_and]at h;rw[h];simp
     show _=PW sg wh ro
     unfold PW
     rw[if_pos this]
    |inl a=>
     obtain⟨n,parts,digits,CT,over⟩:=a
     obtain⟨h1,h2,h3,h4,h5,h6⟩:=hz
     rw[Bool.and_eq_true]at h1
     obtain⟨ha,hr⟩:=h1
     have c0:((wh.length+(ro.getD []).length==0)||!wh.all cD||!(ro.getD []).all cD)=(wh.length+(ro.getD []).length==0):=by rw[ha,hr];simp
     show∃x,(if(digits==0)=true then some ((⟨0,0,⟨[]⟩,[]⟩:aa),(11:Int))else if(over||decide (CT>=0)&&n==2147483647&&decide (parts>0))=true then some ((⟨0,0,⟨[]⟩,[]⟩:aa),(5:Int))else jn (if decide (CT>=0)=true then some (⟨3,ao (ao (1000000*n)+parts),⟨[]⟩,[]⟩:aa)else some (⟨2,n,⟨[]⟩,[]⟩:aa)) fun v75=>jn _ fun v77=>some (v77,(0:Int)))=some x/\x=PW sg wh ro
     unfold PW
     rw[c0,h2,nb0,hd0,if_pos ha,<-h3]
     by_cases hz0:(wh.length+(ro.getD []).length==0)=true
     ·exact⟨_,aw hz0 rfl,by rw[if_pos hz0]⟩
     ·rw[if_neg hz0,if_neg hz0]
      cases over with
      |true=>exact⟨_,aw (by rw[Bool.true_or]) rfl,by rw[if_pos rfl];rfl⟩
      |false=>
       have hn:=h4 rfl
       have rgn:=BZ wh (0,false) ha ⟨Int.le_refl _,by show(0:Int)<=2147483647;decide⟩
       have rgn:0<=(Hz wh).1/\(Hz wh).1<=2147483647:=rgn
       rw[if_neg nF,<-hn]at*
       show∃x,_=some x/\x=if((0:Int)!=0)=true then _ else _
       rw[if_neg (by decide:¬((0:Int)!=0)=true),Bool.false_or,h6,h5]
       have sgn:∀v:aa,-9000000000000000<=v.N->v.N<=9000000000000000->(aI (((pre.length:Int)==1)=true->0<=(0:Int)/\(0:Int)<(((⟨S⟩:aC).b.length:Nat):Int))<|if(((pre.length:Int)==1)&&(((ix (⟨S⟩:aC).b 0).toNat:Int)==45))=true then some (⟨v.Kind,ao (0 -v.N),v.S,v.L⟩:aa)else some v)=some (⟨v.Kind,sg*v.N,v.S,v.L⟩:aa):=fun v v1 v2=>by
        have hSp:0<S.length:=by
         rcases Nat.eq_zero_or_pos S.length with h|h
         ·exact absurd (List.eq_nil_of_length_eq_zero h) h00
         ·exact h
        refine ai (fun _=>⟨Int.le_refl _,by show(0:Int)<(S.length:Int);omega⟩) ?_
        rcases tf with⟨rfl,rfl,_⟩|⟨rfl,rfl⟩|⟨rfl,rfl⟩
        ·refine ag (by show¬((((0:Int)==1)&&_)=true);simp) ?_
         rw[Int.one_mul];cases v;rfl
        ·subst hS
         refine ag (by show¬((true&&(((43:UInt8).toNat:Int)==45))=true);decide) ?_
         rw[Int.one_mul];cases v;rfl
        ·subst hS
         refine aw rfl ?_
         rw[ak AT AT]
         congr 2;omega
       cases ro with
       |none=>refine⟨_,ag (by show¬((false&&_&&_)=true);simp) (bQ (ag nF rfl) (bQ (sgn ⟨2,n,⟨[]⟩,[]⟩ (by show _<=n;omega) (by show n<=_;omega)) rfl)),rfl⟩
       |some r=>
        have pr:=ye 6 r hr
        have p6:nU 6 r<1000000:=pr.2
        show∃x,_=some x/\x=if n*1000000+nU 6 r>2147483647000000 then _ else _
        by_cases hov:n*1000000+nU 6 r>2147483647000000
        ·rw[if_pos hov]
         exact⟨_,aw (by show(true&&(n==2147483647)&&decide (nU 6 r>0))=true;simp;omega) rfl,rfl⟩
        ·rw[if_neg hov]
         have wN:ao ((ao (1000000*n))+nU 6 r)=n*1000000+nU 6 r:=by rw[ak (n:=1000000*n) AT AT,ak AT AT];omega
         refine⟨_,ag (by show¬(true&&(n==2147483647)&&decide (nU 6 r>0))=true;simp;omega) (bQ (aw rfl (by show some (⟨3,ao ((ao (1000000*n))+nU 6 r),⟨[]⟩,[]⟩:aa)=_;rw[wN])) (bQ (sgn ⟨3,n*1000000+nU 6 r,⟨[]⟩,[]⟩ (by show _<=n*1000000+nU 6 r;omega) (by show n*1000000+nU 6 r<=_;omega)) rfl)),rfl⟩
 grind
def afI(s:List UInt8)(hb:s.length<1048576)(h0:s≠[]):iV ⟨s⟩=some (I6 s):=by
 cases s with
 |nil=>exact absurd rfl h0
 |cons c r=>
  by_cases c45:((c.toNat:Int)==45)=true
  ·obtain rfl:c=45:=DF (n:=45) BY c45
   exact Qu [45] r (-1) rfl (.inr (.inr ⟨rfl,rfl⟩)) hb h0
  ·by_cases c43:((c.toNat:Int)==43)=true
   ·obtain rfl:c=43:=DF (n:=43) BY c43
    exact Qu [43] r 1 rfl (.inr (.inl ⟨rfl,rfl⟩)) hb h0
   ·have e:I6 (c::r)=NP 1 (c::r):=by unfold I6;simp only;rw[if_neg c45,if_neg c43]
    rw[e]
    exact Qu [] (c::r) 1 e (.inl ⟨rfl,rfl,fun c' r' h=>by injection h with h1 h2;subst h1;exact⟨by simpa using c43,by simpa using c45⟩⟩) hb h0
def CB:aa:=⟨0,0,⟨[]⟩,[]⟩
def M8(f:Nat):aE:=⟨0,f,f,CB,⟨[]⟩⟩
def tok(f t:Nat)(q:aa×Int):aE×Int:=if q.2 !=0 then(M8 f,q.2)else(⟨1,f,t,q.1,⟨[]⟩⟩,0)
def yy(f:Nat):(List UInt8×Nat)⊕Int->aE×Int
 |.inl r=>(⟨1,f,r.2,⟨4,0,⟨r.1⟩,[]⟩,⟨[]⟩⟩,0)
 |.inr e=>(M8 f,e)
def Ta(c:UInt8):Bool:=((((decide ((c.toNat:Int)>=48))&&(decide ((c.toNat:Int)<=57)))||((c.toNat:Int)==43))||((c.toNat:Int)==45))||((c.toNat:Int)==46)
section
variable(b:List UInt8)(last:Bool)
def Hp(f:Nat)(c:UInt8):aE×Int:=
 if HA c then(if(decide ((tU b f:Int)<(b.length:Int)))||last then(if Ta c then tok f (tU b f) (I6 (part b (f:Int) (tU b f:Int)))else(⟨6,f,tU b f,CB,⟨part b (f:Int) (tU b f:Int)⟩⟩,0))else(M8 f,6))
 else if(c.toNat:Int)==91 then(⟨2,f,((f+1:Nat):Int),CB,⟨[]⟩⟩,0)
 else if(c.toNat:Int)==93 then(⟨3,f,((f+1:Nat):Int),CB,⟨[]⟩⟩,0)
 else if(c.toNat:Int)==60 then(match b[f+1]? with
  |none=>(M8 f,oZ last)
  |some d=>if(d.toNat:Int)==60 then(⟨4,f,((f+2:Nat):Int),CB,⟨[]⟩⟩,0)else yy f (ID b last (b.length+1) ([],-1) (f+1)))
 else if(c.toNat:Int)==62 then(match b[f+1]? with
  |none=>(M8 f,if last then 11 else 6)
  |some d=>if(d.toNat:Int)==62 then(⟨5,f,((f+2:Nat):Int),CB,⟨[]⟩⟩,0)else(M8 f,11))
 else if(c.toNat:Int)==40 then yy f (zz b last (b.length+1) 1 [] (f+1))
 else if(c.toNat:Int)==47 then(if(decide ((tU b (f+1):Int)<(b.length:Int)))||last then tok f (tU b (f+1)) (LR (part b ((f+1:Nat):Int) (tU b (f+1):Int)))else(M8 f,6))
 else(M8 f,11)
def jF(k:Nat):aE×Int:=match b[z7 b k]? with
 |none=>(M8 (z7 b k),if last then 0 else 6)
 |some c=>Hp b last (z7 b k) c
variable{b last}
def yu:∀(f:Nat)(c:Bool)(j:Nat),b.length -j<=f->∀x,b[z8 b f c j]? =some x->HB x=false
 |0,c,j,h,x,hx=>by grind [bC,z8]
 |f+1,c,j,h,x,hx=>by
  rw[z8]at hx
  cases hy:b[j]? with
  |none=>rw[hy]at hx;simp only at hx;rw[hy]at hx;cases hx
  |some y=>
   have hl:=(bC hy).1
   rw[hy]at hx
   simp only at hx
   split at hx
   ·exact yu f _ _ AT x hx
   ·split at hx
    ·exact yu f _ _ AT x hx
    ·split at hx
     ·rename_i h3
      rw[hy]at hx
      injection hx with hx
      subst hx
      simpa using h3
     ·exact yu f _ _ AT x hx
def Ds(k:Nat)(hk:k<=b.length):k<=z7 b k/\z7 b k<=b.length:=Hi _ _ _ hk
theorem rY(k:Nat)(hk:k<=b.length):k<=tU b k/\tU b k<=b.length:=Dp _ _ hk
def Ha{k:Nat}{c:UInt8}(hx:b[k]? =some c)(hc:HA c=true):k<tU b k:=by
 obtain⟨hl,_⟩:=bC hx
 unfold tU
 obtain⟨m,hm⟩:∃m,b.length=m+1:=⟨b.length -1,AT⟩
 rw[hm,Md,hx]
 simp only
 rw[if_pos hc]
 grind [Dp]
def Fj{k e:Nat}{c:UInt8}(hx:b[k]? =some c)(h1:k<e)(h2:e<=b.length):part b (k:Int) (e:Int)=c::part b ((k+1:Nat):Int) (e:Int)/\(part b (k:Int) (e:Int)).length=e -k:=by
 obtain⟨hl,hc⟩:=List.getElem?_eq_some_iff.1 hx
 unfold part
 rw[Int.toNat_natCast,Int.toNat_natCast,show((e:Int) -(k:Int)).toNat=(e -(k+1))+1 by omega,show((e:Int) -((k+1:Nat):Int)).toNat=e -(k+1) by omega,List.drop_eq_getElem_cons hl,hc,List.take_succ_cons]
 grind
def Jf{k e:Nat}(h1:k<=e)(h2:e<=b.length):(part b (k:Int) (e:Int)).length=e -k:=by grind [part,List.length_take,List.length_drop,Int.toNat_natCast]
theorem mi:∀(f:Nat)(d:Int)(o:List UInt8)(j:Nat),j<=b.length->Ro j b.length (zz b last f d o j)
 |0,d,o,j,_=>uv last
 |f+1,d,o,j,hj=>by
  rw[zz]
  cases hx:b[j]? with
  |none=>exact uv last
  |some c=>
   have hl:=(bC hx).1
   simp only
   have up:∀{r:(List UInt8×Nat)⊕Int}{j':Nat},j<j'->Ro j' b.length r->Ro j b.length r:=fun{r j'} h hr=>by
    cases r with
    |inl r=>exact⟨Nat.lt_trans h hr.1,hr.2⟩
    |inr e=>exact hr
   split
   ·have hp:=Gj (b:=b) (last:=last) (j+1) AT
    cases hes:Rl b last (j+1)with
    |inr e=>rw[hes]at hp;have hp:e=oZ last:=hp;rw[hp];exact uv last
    |inl r=>rw[hes]at hp;exact up (by have:=hp.1;omega) (mi f d _ r.2 hp.2.1)
   ·split
    ·cases hy:b[j+1]? with
     |none=>
      simp only
      split
      ·exact up (Nat.lt_succ_self j) (mi f d _ (j+1) AT)
      ·exact(by decide:(6:Int)≠0)
     |some e=>
      have hl2:=(bC hy).1
      simp only
      split
      ·exact up AT (mi f d _ (j+2) AT)
      ·exact up (Nat.lt_succ_self j) (mi f d _ (j+1) AT)
    ·split
     ·exact up (Nat.lt_succ_self j) (mi f _ _ (j+1) AT)
     ·split
      ·split
       ·exact⟨Nat.lt_succ_self j,A_⟩
       ·exact up (Nat.lt_succ_self j) (mi f _ _ (j+1) AT)
      ·exact up (Nat.lt_succ_self j) (mi f d _ (j+1) AT)
def yQ(f:Nat)(x:aE×Int×az):aE×Int:=if x.2.1 !=0 then(M8 f,x.2.1)else(⟨x.1.Kind,f,x.2.2.at_,x.1.V,x.1.S⟩,0)
def W6(hb:b.length<1048576)(f:Nat)(c:UInt8)(hx:b[f]? =some c):∃x,iH ⟨vq.zero,b,(f:Int),last⟩ c=some x/\yQ f x=Hp b last f c:=by
 obtain⟨hl,hi⟩:=bC hx
 have hw:=kK (n:=f) AT
 unfold iH Hp
 refine BU (fun z=>z=HA c) ⟨_,IP c,rfl⟩ ?_
 rintro _ rfl
 have hru:=rY (b:=b) f AT
 cases hr:HA c with
 |true=>
  have hlt:=Ha hx hr
  obtain⟨p1,p2⟩:=Fj hx hlt hru.2
  simp only[if_true]
  show∃x,(aL (fF ⟨vq.zero,b,(f:Int),last⟩) fun r2=>some (r2.1,r2.2.1,r2.2.2))=some x/\_
  unfold fF
  rw[Vb AT vq.zero f last AT,aB]
  show∃x,(aL (if(!((decide ((tU b f:Int)<(b.length:Int)))||last))=true then _ else aI (0<=(0:Int)/\(0:Int)<((part b (f:Int) (tU b f:Int)).length:Int)) (if Ta (ix (part b (f:Int) (tU b f:Int)) 0)=true then _ else _)) _)=some x/\_
  have hix:ix (part b (f:Int) (tU b f:Int)) 0=c:=by rw[p1];rfl
  rw[hix]
  cases hd:(decide ((tU b f:Int)<(b.length:Int)))||last with
  |false=>exact⟨_,ah (aw rfl rfl) rfl,by rw[if_neg nF];rfl⟩
  |true=>
   rw[if_pos rfl]
   have nd:0<=(0:Int)/\(0:Int)<((part b (f:Int) (tU b f:Int)).length:Int):=by rw[p2];omega
   by_cases hn:Ta c=true
   ·rw[if_pos hn,if_pos hn]
    refine⟨_,ah (ag nT (ai nd (ah (afg _ A_) rfl))) rfl,?_⟩
    grind [yQ,tok]
   ·rw[if_neg hn,if_neg hn]
    exact⟨_,ah (ag nT (ai nd rfl)) rfl,rfl⟩
 |false=>
  rw[if_neg nF]
  simp only[hw]
  rw[if_neg nF]
  by_cases h91:((c.toNat:Int)==91)=true
  ·rw[if_pos h91,if_pos h91];exact⟨_,rfl,rfl⟩
  rw[if_neg h91,if_neg h91]
  by_cases h93:((c.toNat:Int)==93)=true
  ·rw[if_pos h93,if_pos h93];exact⟨_,rfl,rfl⟩
  rw[if_neg h93,if_neg h93]
  by_cases h60:((c.toNat:Int)==60)=true
  ·rw[if_pos h60,if_pos h60]
   unfold iG
   cases hy:b[f+1]? with
   |none=>exact⟨_,ah (ah (rK hy) (aw rfl (ah (LN ..) rfl))) rfl,by unfold yQ;exact if_pos (by grind [oZ])⟩
   |some d=>
    have hl2:=(bC hy).1
    have hw2:=kK (n:=f+1) AT
    simp only
    by_cases hd:((d.toNat:Int)==60)=true
    ·rw[if_pos hd]
     refine⟨_,ah (ah (fx hy) (ag nT (aw hd rfl))) rfl,?_⟩
     show((⟨4,f,ao (((f+1:Nat):Int)+1),CB,⟨[]⟩⟩:aE),(0:Int))=_
     rw[hw2]
    ·rw[if_neg hd]
     obtain⟨x,x1,x2⟩:=W0 (last:=last) hb false (f+1) AT
     refine⟨_,ah (ah (fx hy) (ag nT (ag hd (ah (show gm ⟨vq.zero,b,_,last⟩=_ from x1) rfl)))) rfl,?_⟩
     have hp:=uy (b:=b) (last:=last) (b.length+1) ([],-1) (f+1) AT
     cases hq:ID b last (b.length+1) ([],-1) (f+1)with
     |inl r=>
      rw[hq]at x2
      obtain⟨y1,y2,y3⟩:=x2
      unfold yQ yy
      grind
     |inr e=>
      rw[hq]at x2 hp
      have x2:x.2.1=e:=x2
      have hp:e≠0:=hp
      unfold yQ yy
      grind
  rw[if_neg h60,if_neg h60]
  by_cases h62:((c.toNat:Int)==62)=true
  ·rw[if_pos h62,if_pos h62]
   unfold iD
   cases hy:b[f+1]? with
   |none=>
    cases last with
    |true=>exact⟨_,ah (ah (rK hy) (ag nF (aw rfl rfl))) rfl,rfl⟩
    |false=>exact⟨_,ah (ah (rK hy) (aw rfl rfl)) rfl,rfl⟩
   |some d=>
    have hl2:=(bC hy).1
    have hw2:=kK (n:=f+1) AT
    simp only
    by_cases hd:((d.toNat:Int)==62)=true
    ·rw[if_pos hd]
     refine⟨_,ah (ah (fx hy) (ag nF (ag A_ rfl))) rfl,?_⟩
     show((⟨5,f,ao (((f+1:Nat):Int)+1),CB,⟨[]⟩⟩:aE),(0:Int))=_
     rw[hw2]
    ·rw[if_neg hd]
     exact⟨_,ah (ah (fx hy) (ag nF (aw A_ rfl))) rfl,rfl⟩
  rw[if_neg h62,if_neg h62]
  by_cases h40:((c.toNat:Int)==40)=true
  ·rw[if_pos h40,if_pos h40]
   obtain⟨x,x1,x2⟩:=abh (last:=last) hb false (f+1) AT
   refine⟨_,ah (show gV ⟨vq.zero,b,_,last⟩=_ from x1) rfl,?_⟩
   have hp:=mi (b:=b) (last:=last) (b.length+1) 1 [] (f+1) AT
   cases hq:zz b last (b.length+1) 1 [] (f+1)with
   |inl r=>
    rw[hq]at x2
    obtain⟨y1,y2,y3⟩:=x2
    unfold yQ yy
    grind
   |inr e=>
    rw[hq]at x2 hp
    have x2:x.2.1=e:=x2
    have hp:e≠0:=hp
    unfold yQ yy
    grind
  rw[if_neg h40,if_neg h40]
  by_cases h47:((c.toNat:Int)==47)=true
  ·rw[if_pos h47,if_pos h47]
   have hr2:=rY (b:=b) (f+1) AT
   have pl:=Jf (b:=b) hr2.1 hr2.2
   refine BU (fun z=>z=_) ⟨_,Vb AT vq.zero (f+1) last AT,rfl⟩ ?_
   rintro _ rfl
   cases hd:(decide ((tU b (f+1):Int)<(b.length:Int)))||last with
   |false=>exact⟨_,aw rfl rfl,by rw[if_neg nF];rfl⟩
   |true=>
    rw[if_pos rfl]
    refine⟨_,ag nT (ah (abf A_) rfl),?_⟩
    grind [yQ,tok]
  rw[if_neg h47,if_neg h47]
  exact⟨_,rfl,rfl⟩
theorem Cu(hb:b.length<1048576)(k:Nat)(hk:k<=b.length):eh b (k:Int) last=some (jF b last k):=by
 unfold eh jF
 have hs:=Ds (b:=b) k hk
 refine ag By (ah (abg AT k hk) ?_)
 cases hx:b[z7 b k]? with
 |none=>
  have:=eH hx
  refine aw By ?_
  cases last<;>rfl
 |some c=>
  obtain⟨hl,hi⟩:=bC hx
  obtain⟨x,x1,x2⟩:=W6 (last:=last) hb (z7 b k) c hx
  refine ag By (ai AT ?_)
  rw[hi]
  refine ah x1 ?_
  show _=some (Hp b last (z7 b k) c)
  rw[<-x2]
  unfold yQ
  by_cases he:(x.2.1 !=0)=true
  ·rw[if_pos he,if_pos he];rfl
  grind
def tR(t:aE):bd:=⟨t.Kind,t.mj,t.To,t.V,t.S⟩
def Yk(c:UInt8)(h:HA c=true):((c.toNat:Int)==91)=false/\((c.toNat:Int)==93)=false/\((c.toNat:Int)==60)=false/\((c.toNat:Int)==62)=false/\((c.toNat:Int)==40)=false/\((c.toNat:Int)==47)=false/\Ov c=false:=by
 have:=gr (fun c=>!HA c||(!((c.toNat:Int)==91)&&!((c.toNat:Int)==93)&&!((c.toNat:Int)==60)&&!((c.toNat:Int)==62)&&!((c.toNat:Int)==40)&&!((c.toNat:Int)==47)&&!Ov c)) C_ c
 grind
def Jr(k:Nat)(hk:k<=b.length):((tU b k:Int)==(b.length:Int))=!(decide ((tU b k:Int)<(b.length:Int))):=by grind [rY,tU,decide]
def zx(f:Nat){j n:Nat}{T:(List UInt8×Nat)⊕Int}(hp:Ro j n T){x:List UInt8×Int×Int}(hx:Vz T x):(if(x.2.2 !=0)=true then some ((⟨0,f,f,⟨0,0,⟨[]⟩,[]⟩,⟨[]⟩⟩:bd),x.2.2)else some ((⟨1,f,x.2.1,⟨4,0,⟨x.1⟩,[]⟩,⟨[]⟩⟩:bd),(0:Int)))=some (tR (yy f T).1,(yy f T).2):=by
 cases T with
 |inl r=>
  have hx:x=(r.1,(r.2:Int),0):=hx
  subst hx
  exact ag A_ rfl
 |inr e=>
  have hx:x.2.2=e:=hx
  have hp:e≠0:=hp
  refine aw A_ ?_
  rw[hx];rfl
theorem Yh(hb:b.length<1048576)(k:Nat)(hk:k<=b.length)(c:UInt8)(hx:b[z7 b k]? =some c):bu b (k:Int) last=some (tR (Hp b last (z7 b k) c).1,(Hp b last (z7 b k) c).2):=by
 have hs:=Ds (b:=b) k hk
 have hsp:HB c=false:=yu _ _ _ AT c hx
 have hf1:∀f,f=z7 b k->bu b (k:Int) last=some (tR (Hp b last f c).1,(Hp b last f c).2):=fun f hf=>by
  rw[<-hf]at hx hs
  obtain⟨hl,hi⟩:=bC hx
  have hw:=kK (n:=f) AT
  have hw2:ao ((f:Int)+2)=((f+2:Nat):Int):=Z_
  unfold bu
  refine ag By (ah (Vv AT k hk) ?_)
  rw[<-hf]
  refine ag By (ai AT (ah (acx AT f AT) ?_))
  simp only[hi,hw,hw2]
  have hru:=rY (b:=b) f AT
  have hrb:=Jr (b:=b) f AT
  unfold Hp
  cases hr:HA c with
  |true=>
   obtain⟨n91,n93,n60,n62,n40,n47,nd⟩:=Yk c hr
   have hlt:=Ha hx hr
   obtain⟨p1,p2⟩:=Fj hx hlt hru.2
   rw[if_pos rfl]
   refine ag A_ (ag A_ (ai A_ (ag A_ (ai A_ (ag A_ (ag A_ (ag A_ (ag A_ (ah (zi c) (ag A_ ?_))))))))))
   rw[hrb]
   have np:0<=(f:Int)/\(f:Int)<=(tU b f:Int)/\(tU b f:Int)<=(b.length:Int):=AT
   cases hd:(decide ((tU b f:Int)<(b.length:Int)))||last with
   |false=>
    rw[Bool.or_eq_false_iff]at hd
    rw[if_neg nF,hd.1,hd.2]
    exact aw rfl rfl
   |true=>
    rw[if_pos rfl]
    refine ag A_ ?_
    by_cases hn:Ta c=true
    ·rw[if_pos hn]
     refine aw hn (ai np (ah (afI _ A_ A_) ?_))
     unfold tok
     generalize I6 (part b (f:Int) (tU b f:Int))=q
     by_cases he:(q.2 !=0)=true
     ·rw[if_pos he,if_pos he];rfl
     ·rw[if_neg he,if_neg he];rfl
    ·rw[if_neg hn]
     exact ag hn (ai np rfl)
  |false=>
   rw[if_neg nF]
   by_cases h91:((c.toNat:Int)==91)=true
   ·rw[if_pos h91,if_pos h91];rfl
   rw[if_neg h91,if_neg h91]
   by_cases h93:((c.toNat:Int)==93)=true
   ·rw[if_pos h93,if_pos h93];rfl
   rw[if_neg h93,if_neg h93]
   by_cases h60:((c.toNat:Int)==60)=true
   ·rw[if_pos h60]
    have hc:(c.toNat:Int)=60:=by simpa using h60
    have n62:((c.toNat:Int)==62)=false:=Γ
    have n40:((c.toNat:Int)==40)=false:=Γ
    obtain⟨x,x1,x2⟩:=Qt (last:=last) hb (f+1) AT
    have hp:=uy (b:=b) (last:=last) (b.length+1) ([],-1) (f+1) AT
    cases hy:b[f+1]? with
    |none=>
     have hl2:=eH hy
     have hd1:decide (((f+1:Nat):Int)<(b.length:Int))=false:=By
     have e:ID b last (b.length+1) ([],-1) (f+1)=.inr (oZ last):=by rw[ID,hy]
     rw[e]at x2 hp
     refine ai A_ (ag A_ (ai A_ (ag A_ (ag A_ (aw (by rw[h60];rfl) (ah x1 (bQ (ag A_ rfl) (zx f hp x2))))))))
    |some d=>
     obtain⟨hl2,hi2⟩:=bC hy
     have hd1:decide (((f+1:Nat):Int)<(b.length:Int))=true:=By
     simp only[hi2]
     by_cases hd:((d.toNat:Int)==60)=true
     ·rw[if_pos hd]
      exact ai AT (aw A_ rfl)
     ·rw[if_neg hd]
      have hdf:((d.toNat:Int)==60)=false:=by simpa using hd
      exact ai AT (ag A_ (ai A_ (ag A_ (ag A_ (aw (by rw[h60];rfl) (ah x1 (bQ (ag A_ rfl) (zx f hp x2))))))))
   rw[if_neg h60]
   have n60:((c.toNat:Int)==60)=false:=by simpa using h60
   refine ai A_ (ag A_ ?_)
   by_cases h62:((c.toNat:Int)==62)=true
   ·rw[if_pos h62]
    have hc:(c.toNat:Int)=62:=Xg2
    have n40:((c.toNat:Int)==40)=false:=Γ
    have n47:((c.toNat:Int)==47)=false:=Γ
    have hde:Ov c=true:=by
     have:=gr (fun c=>!((c.toNat:Int)==62)||Ov c) C_ c
     rw[h62]at this;exact this
    cases hy:b[f+1]? with
    |none=>
     have hl2:=eH hy
     have hd1:decide (((f+1:Nat):Int)<(b.length:Int))=false:=By
     have hd2:(((f+1:Nat):Int)==(b.length:Int))=true:=By
     refine ai A_ (ag A_ ?_)
     cases last with
     |false=>exact aw A_ rfl
     |true=>exact ag B_ (ag A_ (ag A_ (ah (zi c) (aw hde rfl))))
    |some d=>
     obtain⟨hl2,hi2⟩:=bC hy
     have hd1:decide (((f+1:Nat):Int)<(b.length:Int))=true:=By
     have hd2:(((f+1:Nat):Int)==(b.length:Int))=false:=By
     simp only[hi2]
     by_cases hd:((d.toNat:Int)==62)=true
     ·rw[if_pos hd]
      exact ai AT (aw A_ rfl)
     ·rw[if_neg hd]
      have hdf:((d.toNat:Int)==62)=false:=by simpa using hd
      exact ai AT (ag A_ (ag A_ (ag A_ (ag A_ (ah (zi c) (aw hde rfl))))))
   rw[if_neg h62]
   have n62:((c.toNat:Int)==62)=false:=Xg2
   refine ai A_ (ag A_ (ag A_ ?_))
   by_cases h40:((c.toNat:Int)==40)=true
   ·rw[if_pos h40]
    obtain⟨x,x1,_⟩:=Qt (last:=last) hb (f+1) AT
    obtain⟨y,y1,y2⟩:=acA (last:=last) hb (f+1) AT
    have hp:=mi (b:=b) (last:=last) (b.length+1) 1 [] (f+1) AT
    exact aw A_ (ah x1 (bQ (aw h40 (ah y1 rfl)) (zx f hp y2)))
   rw[if_neg h40]
   have n40:((c.toNat:Int)==40)=false:=by simpa using h40
   refine ag A_ ?_
   by_cases h47:((c.toNat:Int)==47)=true
   ·rw[if_pos h47,if_pos h47]
    have hr2:=rY (b:=b) (f+1) AT
    have pl:=Jf (b:=b) hr2.1 hr2.2
    have hrb:=Jr (b:=b) (f+1) AT
    refine ah (acx AT (f+1) AT) ?_
    rw[hrb]
    cases hd:(decide ((tU b (f+1):Int)<(b.length:Int)))||last with
    |false=>
     rw[Bool.or_eq_false_iff]at hd
     rw[if_neg nF,hd.1,hd.2]
     exact aw rfl rfl
    |true=>
     rw[if_pos rfl]
     refine ag A_ (ai AT (ah (acu A_) ?_))
     unfold tok
     generalize LR (part b ((f+1:Nat):Int) (tU b (f+1):Int))=q
     by_cases he:(q.2 !=0)=true
     ·rw[if_pos he,if_pos he];rfl
     ·rw[if_neg he,if_neg he];rfl
   rw[if_neg h47,if_neg h47]
   have hde:Ov c=true:=by
    unfold HA at hr
    rw[hsp]at hr
    simpa using hr
   exact ah (zi c) (aw hde rfl)
 grind
theorem pD(hb:b.length<1048576)(k:Nat)(hk:k<=b.length):bu b (k:Int) last=some (tR (jF b last k).1,(jF b last k).2):=by
 cases hx:b[z7 b k]? with
 |none=>
  unfold bu jF
  rw[hx]
  have hs:=Ds (b:=b) k hk
  have:=eH hx
  refine ag By (ah (Vv AT k hk) (aw By ?_))
  cases last<;>rfl
 |some c=>grind [jF,Hp,z7,Yh]
def PQ{at_:Int}(h:at_<0\/at_>(b.length:Int)):eh b at_ last=some (⟨0,0,0,CB,⟨[]⟩⟩,2)/\bu b at_ last=some (tR ⟨0,0,0,CB,⟨[]⟩⟩,2):=by refine⟨aw By rfl,aw By rfl⟩
end
structure zE(b:List UInt8)(k:Nat)(t:aE):Prop where
 to:∃j:Nat,t.To=(j:Int)/\j<=b.length/\k<=j/\(t.Kind≠0->k<j)
 kd:t.Kind=0\/t.Kind=1\/t.Kind=2\/t.Kind=3\/t.Kind=4\/t.Kind=5\/t.Kind=6
 nm:t.Kind=1->t.V.Kind=5->t.V=⟨5,0,t.V.S,[]⟩
theorem Xo(w:List UInt8)(h:(LR w).1.Kind=5):(LR w).1=⟨5,0,(LR w).1.S,[]⟩:=by
 unfold LR at h⊢
 cases hx:M6 w (w.length+1) [] 0 with
 |inr e=>grind
 |inl o=>
  rw[hx]at h
  show(Rn o).1=⟨5,0,(Rn o).1.S,[]⟩
  have h:(Rn o).1.Kind=5:=h
  unfold Rn at h⊢
  grind
def KB(sg:Int)(wh:List UInt8)(ro:Option (List UInt8)):(PW sg wh ro).1.Kind≠5:=by
 unfold PW
 grind
theorem Xx(s:List UInt8):(I6 s).1.Kind≠5:=by
 unfold I6
 cases s with
 |nil=>exact KB _ _ _
 |cons c r=>
  show(if _ then _ else _:aa×Int).1.Kind≠5
  split
  ·exact KB _ _ _
  ·split<;>exact KB _ _ _
def I9{b:List UInt8}{last:Bool}{k:Nat}(hk:k<=b.length)(h:(jF b last k).2=0):zE b k (jF b last k).1:=by
 have hs:=Ds (b:=b) k hk
 unfold jF at h⊢
 cases hx:b[z7 b k]? with
 |none=>
  rw[hx]at h
  exact⟨⟨z7 b k,rfl,hs.2,hs.1,fun h=>absurd rfl h⟩,.inl rfl,fun h=>F_⟩
 |some c=>
  rw[hx]at h
  have h:(Hp b last (z7 b k) c).2=0:=h
  show zE b k (Hp b last (z7 b k) c).1
  generalize hf:z7 b k=f at*
  have hfl:f<b.length:=(List.getElem?_eq_some_iff.1 hx).1
  have str:∀T:(List UInt8×Nat)⊕Int,Ro (f+1) b.length T->(yy f T).2=0->zE b k (yy f T).1:=fun T hT h=>by
   cases T with
   |inl r=>exact⟨⟨r.2,rfl,hT.2,Xg6,fun _=>Xg6⟩,.inr (.inl rfl),fun _ h=>F_⟩
   |inr e=>exact absurd h hT
  have tk:∀(e:Nat)(q:aa×Int),f<e->e<=b.length->(q.2=0->q.1.Kind=5->q.1=⟨5,0,q.1.S,[]⟩)->(tok f e q).2=0->zE b k (tok f e q).1:=fun e q h1 h2 hq h=>by
   unfold tok at h⊢
   by_cases hc:(q.2 !=0)=true
   ·grind
   ·rw[if_neg hc]
    have hc:q.2=0:=M_
    exact⟨⟨e,rfl,h2,AT,fun _=>AT⟩,.inr (.inl rfl),fun _ h=>hq hc h⟩
  have one:∀(kd:Int)(n:Nat),f<n->n<=b.length->(kd=2\/kd=3\/kd=4\/kd=5)->∀t:aE,t=⟨kd,f,(n:Int),CB,⟨[]⟩⟩->zE b k t:=fun kd n h1 h2 hkd t ht=>by
   subst ht
   refine⟨⟨n,rfl,h2,AT,fun _=>AT⟩,?_,fun h=>?_⟩
   ·grind
   grind
  unfold Hp at h⊢
  split at h
  ·rename_i hc
   rw[if_pos hc]
   have hr:=Ha hx hc
   have hr2:=(rY (b:=b) f AT).2
   split at h
   ·rename_i hl
    rw[if_pos hl]
    split at h
    ·rename_i hn
     rw[if_pos hn]
     grind [absurd,Xx]
    ·rename_i hn
     rw[if_neg hn]
     exact⟨⟨tU b f,rfl,hr2,AT,fun _=>AT⟩,B_,fun h=>F_⟩
   ·cases h
  ·rename_i hc
   rw[if_neg hc]
   split at h
   ·rename_i h1;rw[if_pos h1]
    exact one 2 (f+1) AT AT B_ _ rfl
   ·rename_i h1;rw[if_neg h1]
    split at h
    ·rename_i h2;rw[if_pos h2]
     exact one 3 (f+1) AT AT B_ _ rfl
    ·rename_i h2;rw[if_neg h2]
     split at h
     ·rename_i h3;rw[if_pos h3]
      cases hd:b[f+1]? with
      |none=>grind [oZ,absurd]
      |some d=>
       have hd1:f+1<b.length:=(List.getElem?_eq_some_iff.1 hd).1
       rw[hd]at h
       simp only at h⊢
       split at h
       ·rename_i h4;rw[if_pos h4]
        exact one 4 (f+2) AT AT B_ _ rfl
       ·rename_i h4;rw[if_neg h4]
        grind [uy]
     ·rename_i h3;rw[if_neg h3]
      split at h
      ·rename_i h4;rw[if_pos h4]
       cases hd:b[f+1]? with
       |none=>grind
       |some d=>
        have hd1:f+1<b.length:=(List.getElem?_eq_some_iff.1 hd).1
        rw[hd]at h
        simp only at h⊢
        split at h
        ·rename_i h5;rw[if_pos h5]
         exact one 5 (f+2) AT AT B_ _ rfl
        ·cases h
      ·rename_i h4;rw[if_neg h4]
       split at h
       ·rename_i h5;rw[if_pos h5]
        grind [mi]
       ·rename_i h5;rw[if_neg h5]
        split at h
        ·rename_i h6;rw[if_pos h6]
         have hr2:=rY (b:=b) (f+1) AT
         split at h
         ·rename_i hl
          rw[if_pos hl]
          grind [Xo]
         ·cases h
        ·cases h
def PX(sg:Int)(wh:List UInt8)(ro:Option (List UInt8)):(PW sg wh ro).1.L=[]:=by
 unfold PW
 grind
def abJ(s:List UInt8):(I6 s).1.L=[]:=by
 unfold I6
 cases s with
 |nil=>exact PX _ _ _
 |cons c r=>
  show(if _ then _ else _:aa×Int).1.L=[]
  split
  ·exact PX _ _ _
  ·split<;>exact PX _ _ _
def abw(w:List UInt8):(LR w).1.L=[]:=by grind [LR,M6,Rn]
def VM{f e:Nat}{q:aa×Int}(h:q.1.L=[]):(tok f e q).1.V.L=[]:=by
 unfold tok
 split
 ·rfl
 ·exact h
def acO{f:Nat}{T:(List UInt8×Nat)⊕Int}:(yy f T).1.V.L=[]:=by cases T<;>rfl
theorem acT(b:List UInt8)(last:Bool)(f:Nat)(c:UInt8):(Hp b last f c).1.V.L=[]:=by
 unfold Hp
 repeat' split
 all_goals first|rfl|exact VM (abJ _)|exact VM (abw _)|exact acO
def afo(b:List UInt8)(last:Bool)(k:Nat):(jF b last k).1.V.L=[]:=by
 unfold jF
 split
 ·rfl
 grind [acT]
section
variable{b:List UInt8}{last:Bool}
theorem Ue(hb:b.length<1048576)(f:Nat)(c:UInt8)(hx:b[f]? =some c):(Hp b last f c).2=0->∃j:Nat,(Hp b last f c).1.To=(j:Int)/\f<j/\j<=b.length/\(Hp b last f c).1.Kind≠0:=by
 obtain⟨hl,_⟩:=bC hx
 have hru:=rY (b:=b) f AT
 have aht:∀(t:Nat)(q:aa×Int),f<t->t<=b.length->(tok f t q).2=0->∃j:Nat,(tok f t q).1.To=(j:Int)/\f<j/\j<=b.length/\(tok f t q).1.Kind≠0:=fun t q h1 h2 h=>by
  unfold tok at h⊢
  grind
 have ahs:∀T:(List UInt8×Nat)⊕Int,Ro (f+1) b.length T->(yy f T).2=0->∃j:Nat,(yy f T).1.To=(j:Int)/\f<j/\j<=b.length/\(yy f T).1.Kind≠0:=fun T hT h=>by
  cases T with
  |inl r=>exact⟨r.2,rfl,Xg6,hT.2,by show(1:Int)≠0;decide⟩
  |inr e=>exact absurd h hT
 have no:∀{e:Int},e≠0->((M8 f,e):aE×Int).2=0->∃j:Nat,((M8 f,e):aE×Int).1.To=(j:Int)/\f<j/\j<=b.length/\((M8 f,e):aE×Int).1.Kind≠0:=fun h1 h=>absurd h h1
 unfold Hp
 split
 ·rename_i hr
  have hlt:=Ha hx hr
  grind
 ·split
  ·grind
  ·split
   ·grind
   ·split
    ·cases hy:b[f+1]? with
     |none=>grind [uv]
     |some d=>
      have hl2:=(bC hy).1
      simp only
      split
      ·intro _;exact⟨f+2,rfl,AT,AT,A_⟩
      grind [uy]
    ·split
     ·cases hy:b[f+1]? with
      |none=>grind
      |some d=>
       have hl2:=(bC hy).1
       simp only
       split
       ·intro _;exact⟨f+2,rfl,AT,AT,A_⟩
       grind
     grind [mi,rY]
def GH(hb:b.length<1048576)(k:Nat)(hk:k<=b.length)(h:(jF b last k).2=0):∃j:Nat,(jF b last k).1.To=(j:Int)/\k<=j/\j<=b.length/\((jF b last k).1.Kind≠0->k<j):=by
 have hs:=Ds (b:=b) k hk
 unfold jF at h⊢
 cases hx:b[z7 b k]? with
 |none=>exact⟨z7 b k,rfl,hs.1,hs.2,fun h=>absurd rfl h⟩
 |some c=>grind [Ue,z7]
variable(b last)
def KC(k:Nat):Int×Int×Int:=if(jF b last k).2 !=0 then(0,0,(jF b last k).2)else if(jF b last k).1.Kind==0 then(0,0,10)else if !(((jF b last k).1.Kind==1)&&((jF b last k).1.V.Kind==2))then(0,0,11)else((jF b last k).1.V.N,(jF b last k).1.To,0)
def pP(k:Nat)(w:List UInt8):Int×Int:=if(jF b last k).2 !=0 then(0,(jF b last k).2)else if(jF b last k).1.Kind==0 then(0,10)else if !(((jF b last k).1.Kind==6)&&((jF b last k).1.S.b==w))then(0,11)else((jF b last k).1.To,0)
variable{b last}
def SK(hb:b.length<1048576)(k:Nat)(hk:k<=b.length):fQ b (k:Int) last=some (KC b last k):=by
 unfold fQ ll KC
 rw[Cu hb k hk]
 generalize jF b last k=q
 obtain⟨t,e⟩:=q
 by_cases he:(e !=0)=true
 ·simp_all
 ·rw[if_neg he]
  by_cases h0:(t.Kind==0)=true
  ·simp_all
  ·rw[if_neg h0]
   by_cases hw:(!((t.Kind==1)&&(t.V.Kind==2)))=true
   ·rw[if_pos hw];exact ah (ag he (ag h0 (ah rfl (aw hw rfl)))) rfl
   ·rw[if_neg hw];exact ah (ag he (ag h0 (ah rfl (ag hw rfl)))) rfl
def TH(hb:b.length<1048576)(k:Nat)(hk:k<=b.length):fp b (k:Int) last=some (KC b last k):=by
 unfold fp KC
 rw[pD hb k hk]
 generalize jF b last k=q
 obtain⟨t,e⟩:=q
 by_cases he:(e !=0)=true
 ·simp_all
 ·rw[if_neg he]
  by_cases h0:(t.Kind==0)=true
  ·rw[if_pos h0];exact ag he (aw h0 rfl)
  ·rw[if_neg h0]
   by_cases hw:(!((t.Kind==1)&&(t.V.Kind==2)))=true
   ·rw[if_pos hw];exact ag he (ag h0 (ah rfl (aw hw rfl)))
   ·rw[if_neg hw];exact ag he (ag h0 (ah rfl (ag hw rfl)))
def PB(hb:b.length<1048576)(k:Nat)(hk:k<=b.length)(w:List UInt8):mH b (k:Int) last ⟨w⟩=some (pP b last k w):=by
 unfold mH mI pP
 rw[Cu hb k hk]
 generalize jF b last k=q
 obtain⟨t,e⟩:=q
 by_cases he:(e !=0)=true
 ·simp_all
 ·rw[if_neg he]
  by_cases h0:(t.Kind==0)=true
  ·simp_all
  ·rw[if_neg h0]
   by_cases hw:(!((t.Kind==6)&&(t.S.b==w)))=true
   ·rw[if_pos hw];exact ah (ag he (ag h0 (ah rfl (aw hw rfl)))) rfl
   ·rw[if_neg hw];exact ah (ag he (ag h0 (ah rfl (ag hw rfl)))) rfl
def KP(hb:b.length<1048576)(k:Nat)(hk:k<=b.length)(w:List UInt8):fL b (k:Int) last ⟨w⟩=some (pP b last k w):=by
 unfold fL pP
 rw[pD hb k hk]
 generalize jF b last k=q
 obtain⟨t,e⟩:=q
 by_cases he:(e !=0)=true
 ·simp_all
 ·rw[if_neg he]
  by_cases h0:(t.Kind==0)=true
  ·rw[if_pos h0];exact ag he (aw h0 rfl)
  ·rw[if_neg h0]
   have e2:(!((t.Kind==6)&&(t.S.b==w)))=((t.Kind !=6)||(!(t.S.b==w))):=by
    show(!((t.Kind==6)&&(t.S.b==w)))=(!(t.Kind==6)||(!(t.S.b==w)))
    cases(t.Kind==6)<;>rfl
   by_cases hw:(!((t.Kind==6)&&(t.S.b==w)))=true
   ·rw[if_pos hw];exact ag he (ag h0 (aw (by have h:=hw;rw[e2]at h;exact h) rfl))
   ·rw[if_neg hw];exact ag he (ag h0 (ag (by have h:=hw;rw[e2]at h;exact h) rfl))
theorem P1(hb:b.length<1048576)(k:Nat)(hk:k<=b.length)(h:(KC b last k).2.2=0):∃j:Nat,(KC b last k).2.1=(j:Int)/\j<=b.length/\k<j:=by
 unfold KC at h⊢
 by_cases he:((jF b last k).2 !=0)=true
 ·grind
 ·rw[if_neg he]at h⊢
  have he0:(jF b last k).2=0:=E_
  obtain⟨j,j1,j2,j3,j4⟩:=GH hb k hk he0
  grind
end
end Go.AB
end
