/- A part of the proof: Ui, Uj. -/
import Derived.Test.YtkeagffgdajggaaGreatSo21
set_option linter.unusedSimpArgs false
set_option linter.unusedVariables false
section
set_option linter.unusedSimpArgs false
namespace Go.AB
open Go
def F3(l:List UInt8):Int×Bool:=l.foldl fJ (0,false)
theorem Dy:∀(l:List UInt8)(q:Int×Bool),l.all b4=true→jW l q=if(l.foldl fJ q).2 then(0,5)else((l.foldl fJ q).1,0)
 |[],q,_=>rfl
 |c::l,q,h=>by
  rw[List.all_cons,Bool.and_eq_true]at h
  rw[jW,if_pos h.1,Dy l _ h.2];rfl
theorem AW:∀(l:List UInt8)(q:Int×Bool),l.all b4=true→0≤q.1∧q.1≤2147483647→0≤(l.foldl fJ q).1∧(l.foldl fJ q).1≤2147483647
 |[],q,_,h=>h
 |c::l,q,h,hq=>by
  rw[List.all_cons,Bool.and_eq_true]at h
  have hd:48≤(c.toNat:Int)∧(c.toNat:Int)≤57:=by have:=h.1;unfold b4 at this;simp at this;omega
  refine AW l _ h.2 ?_
  unfold fJ
  simp only
  split
  ·exact hq
  ·rename_i hno
   have:¬q.1>(2147483647 -((c.toNat:Int) -48)).tdiv 10:=by
    intro hh
    apply hno
    rw[decide_eq_true hh,Bool.or_true]
   rw[Int.tdiv_eq_ediv_of_nonneg (by omega)]at this
   show 0≤10*q.1+((c.toNat:Int) -48)∧10*q.1+((c.toNat:Int) -48)≤2147483647
   omega
def HP:Nat→Int
 |0=>100000
 |1=>10000
 |2=>1000
 |3=>100
 |4=>10
 |5=>1
 |_=>0
theorem Kk:∀(k:Nat)(l:List UInt8)(c:UInt8),me k (l++[c])=me k l+(if l.length<k then((c.toNat:Int) -48)*10^(k -1 -l.length)else 0)
 |0,l,c=>by simp[me]
 |k+1,[],c=>by
  show((c.toNat:Int) -48)*10^k+me k []=0+if 0<k+1 then((c.toNat:Int) -48)*10^k else 0
  rw[if_pos (by omega)]
  have:me k []=0:=by cases k<;>rfl
  omega
 |k+1,x::l,c=>by
  rw[List.cons_append]
  show((x.toNat:Int) -48)*10^k+me k (l++[c])=((x.toNat:Int) -48)*10^k+me k l+_
  rw[Kk k l c,List.length_cons,Int.add_assoc]
  congr 2
  by_cases h:l.length<k
  ·rw[if_pos h,if_pos (by omega),show k+1 -1 -(l.length+1)=k -1 -l.length by omega]
  ·rw[if_neg h,if_neg (by omega)]
theorem RP(l:List UInt8)(c:UInt8):me 6 (l++[c])=me 6 l+HP l.length*((c.toNat:Int) -48):=by
 rw[Kk,Int.mul_comm]
 congr 1
 by_cases h:l.length<6
 ·rw[if_pos h]
  rcases(show l.length=0∨l.length=1∨l.length=2∨l.length=3∨l.length=4∨l.length=5 by omega)with h|h|h|h|h|h<;>rw[h]<;>rfl
 ·rw[if_neg h]
  obtain⟨m,hm⟩:∃m,l.length=m+6:=⟨l.length -6,by omega⟩
  rw[hm]
  rw[show HP (m+6)=0 from rfl,Int.zero_mul]
theorem JW:∀(l:List UInt8),∀c∈(iR l).1,((c.toNat:Int)==46)=false
 |[],c,h=>by cases h
 |x::l,c,h=>by
  rw[iR]at h
  cases hx:((x.toNat:Int)==46)with
  |true=>rw[if_pos hx]at h;cases h
  |false=>
   rw[if_neg (by rw[hx];decide)]at h
   rcases List.mem_cons.1 h with rfl|h
   ·exact hx
   ·exact JW l c h
def RB:Option (List UInt8)→List UInt8
 |none=>[]
 |some r=>46::r
def VX:Option (List UInt8)→Option UInt8
 |none=>none
 |some _=>some 46
theorem KS(l:List UInt8):l=(iR l).1++RB (iR l).2:=by
 have:=Ad l
 cases h:(iR l).2 with
 |none=>rw[h]at this;rw[this.2];exact(List.append_nil _).symm
 |some r=>rw[h]at this;exact this.2
theorem AR(l:List UInt8)(c:UInt8):F3 (l++[c])=fJ (F3 l) c:=by unfold F3;rw[List.foldl_append];rfl
def Z1(pre wh:List UInt8)(ro:Option (List UInt8))(s:Int×Int×Int×Int×Bool×Int):Prop:=
 0≤s.1∧s.1≤1000000000000∧
 ((∃i:Nat,s.2.2.2.2.2=((pre.length+i:Nat):Int)∧i≤wh.length∧s.2.2.2.1=-1∧s.2.1=0∧s.2.2.1=(i:Int)∧(wh.take i).all b4=true∧s.2.2.2.2.1=(F3 (wh.take i)).2∧(s.2.2.2.2.1=false→s.1=(F3 (wh.take i)).1))∨
  (∃(r:List UInt8)(i:Nat),ro=some r∧s.2.2.2.2.2=((pre.length+wh.length+1+i:Nat):Int)∧i≤r.length∧s.2.2.2.1=((pre.length+wh.length:Nat):Int)∧s.2.1=me 6 (r.take i)∧s.2.2.1=((wh.length+i:Nat):Int)∧wh.all b4=true∧(r.take i).all b4=true∧s.2.2.2.2.1=(F3 wh).2∧(s.2.2.2.2.1=false→s.1=(F3 wh).1)))
def YV(wh:List UInt8)(ro:Option (List UInt8))(z:(Int×Int×Int×Int×Bool)⊕Int):Prop:=match z with
 |.inr e=>e=11∧(wh.all b4&&(ro.getD []).all b4)=false
 |.inl (n,parts,digits,point,jm)=>(wh.all b4&&(ro.getD []).all b4)=true∧digits=((wh.length+(ro.getD []).length:Nat):Int)∧jm=(F3 wh).2∧(jm=false→n=(F3 wh).1)∧parts=me 6 (ro.getD [])∧decide (point≥0)=ro.isSome
theorem NJ(pre body:List UInt8)(sg:Int)(hs:Lk (pre++body)=LW sg body)(hpre:(pre=[]∧sg=1∧∀c r,body=c::r→((c.toNat:Int)==43)=false∧((c.toNat:Int)==45)=false)∨(pre=[43]∧sg=1)∨(pre=[45]∧sg=-1))(hb:(pre++body).length<1048576)(h00:pre++body≠[]):dV ⟨pre++body⟩=some (LW sg body):=by
 have key:∃x,dV ⟨pre++body⟩=some x∧x=LW sg body:=by
  have hp1:pre.length≤1:=by rcases hpre with⟨rfl,_⟩|⟨rfl,_⟩|⟨rfl,_⟩<;>simp
  have hbl:(pre++body).length=pre.length+body.length:=List.length_append
  have hcut:=KS body
  have hne:=JW body
  unfold LW
  generalize hwr:iR body=q at hcut hne
  obtain⟨wh,ro⟩:=q
  have hne:∀c∈wh,((c.toNat:Int)==46)=false:=hne
  have hbody:body=wh++RB ro:=hcut
  have at1:∀i,i<wh.length→(pre++body)[pre.length+i]? =wh[i]? :=fun i h=>by rw[List.getElem?_append_right (by omega),Nat.add_sub_cancel_left,hbody,List.getElem?_append_left h]
  have at2:(pre++body)[pre.length+wh.length]? =VX ro:=by
   rw[List.getElem?_append_right (by omega),Nat.add_sub_cancel_left,hbody,List.getElem?_append_right (by omega),Nat.sub_self]
   cases ro<;>rfl
  have at3:∀r i,ro=some r→(pre++body)[pre.length+wh.length+1+i]? =r[i]? :=fun r i h=>by
   subst h
   rw[List.getElem?_append_right (by omega),hbody,List.getElem?_append_right (by omega)]
   rw[show pre.length+wh.length+1+i -pre.length -wh.length=i+1 by omega]
   rfl
  unfold dV
  refine QP (fun z=>z=(pre.length:Int)) ?_ ?_
  ·rcases hpre with⟨rfl,_,h⟩|⟨rfl,_⟩|⟨rfl,_⟩
   ·cases hbo:body with
    |nil=>exact absurd (by rw[hbo];rfl) h00
    |cons c r=>
     obtain⟨h1,h2⟩:=h c r hbo
     have hix:ix (([]:List UInt8)++c::r) 0=c:=rfl
     exact⟨_,ah (by simp<;>omega) (ah (by simp<;>omega) (af (by show¬(_&&((((ix (([]:List UInt8)++c::r) 0).toNat:Int)==43)||(((ix (([]:List UInt8)++c::r) 0).toNat:Int)==45)))=true;rw[hix,h1,h2];simp) rfl)),rfl⟩
   ·exact⟨_,ah (by simp<;>omega) (ah (by simp<;>omega) (ax (by show(decide ((((([43]:List UInt8)++body).length:Nat):Int)>0)&&true)=true;simp<;>omega) rfl)),rfl⟩
   ·exact⟨_,ah (by simp<;>omega) (ah (by simp<;>omega) (ax (by show(decide ((((([45]:List UInt8)++body).length:Nat):Int)>0)&&true)=true;simp<;>omega) rfl)),rfl⟩
  ·rintro _ rfl
   generalize hS:pre++body=S at*
   refine uP (YV wh ro) (pL (YV wh ro) (gn (Z1 pre wh ro) (fun s=>S.length -s.2.2.2.2.2.toNat) (YV wh ro) ⟨Int.le_refl _,by show(0:Int)≤1000000000000;decide,.inl ⟨0,rfl,Nat.zero_le _,rfl,rfl,rfl,rfl,rfl,fun _=>rfl⟩⟩ (by show S.length -_<_;omega) ?_) ?_) ?_
   ·rintro⟨n,parts,digits,point,jm,k⟩ ⟨n0,n1,hI⟩
    have n0:0≤n:=n0
    have n1:n≤1000000000000:=n1
    have rg:∀l:List UInt8,l.all b4=true→0≤(F3 l).1∧(F3 l).1≤2147483647:=fun l h=>AW l (0,false) h ⟨Int.le_refl _,by show(0:Int)≤2147483647;decide⟩
    rcases hI with⟨i,ek,hi,ep,epa,ed,hall,eo,en⟩|⟨r,i,hr,ek,hi,ep,epa,ed,hwa,hall,eo,en⟩
    ·have ek:k=((pre.length+i:Nat):Int):=ek
     have ep:point=-1:=ep
     have epa:parts=0:=epa
     have ed:digits=(i:Int):=ed
     have eo:jm=(F3 (wh.take i)).2:=eo
     have en:jm=false→n=(F3 (wh.take i)).1:=en
     subst ek;subst ep;subst epa;subst ed
     by_cases hlt:i<wh.length
     ·have hx:S[pre.length+i]? =some wh[i]:=by rw[at1 i hlt,List.getElem?_eq_getElem hlt]
      obtain⟨hl,hi2⟩:=bc hx
      have n46:=hne _ (List.getElem_mem hlt)
      have gd:(decide (((pre.length+i:Nat):Int)<(((⟨S⟩:aL).b.length:Nat):Int)))=true:=by show decide (_<(S.length:Int))=true;simp;omega
      have np:0≤((pre.length+i:Nat):Int)∧((pre.length+i:Nat):Int)<(((⟨S⟩:aL).b.length:Nat):Int):=by show _∧_<(S.length:Int);omega
      have hw1:=iX (n:=pre.length+i) (by omega)
      have take1:wh.take (i+1)=wh.take i++[wh[i]]:=List.take_succ_eq_append_getElem hlt
      generalize hc:wh[i]=c at*
      have m46:¬((((c.toNat:Int)==46)&&decide ((-1:Int)<0))=true):=by rw[n46];decide
      by_cases hd:b4 c=true
      ·have hd2:48≤(c.toNat:Int)∧(c.toNat:Int)≤57:=by have:=hd;unfold b4 at this;simp at this;omega
       have dg:((decide ((c.toNat:Int)≥48))&&(decide ((c.toNat:Int)≤57))&&decide ((-1:Int)<0))=true:=by simp;omega
       have all1:(wh.take (i+1)).all b4=true:=by rw[take1,List.all_append,hall,List.all_cons,hd];rfl
       have wi:az ((i:Int)+1)=((i+1:Nat):Int):=iX (by omega)
       simp only[hi2]
       cases jm with
       |true=>
        refine⟨_,ax gd (bz (ah np (af m46 (ah np (ah (fun _=>np) (ax dg (gI (af nT rfl) rfl)))))) rfl),⟨n0,n1,.inl ⟨i+1,hw1,hlt,rfl,rfl,wi,all1,?_,fun e=>(by cases e)⟩⟩,?_⟩
        ·show true=_
         rw[take1,AR]
         unfold fJ
         simp only
         rw[←eo];rfl
        ·show S.length -(az _).toNat<S.length -((pre.length+i:Nat):Int).toNat
         rw[hw1];omega
       |false=>
        have hn:=en rfl
        have hr2:=rg _ hall
        have w8:az ((az ((az (10*n))+(az ((c.toNat:Int))))) -48)=10*n+((c.toNat:Int) -48):=by rw[aM (n:=10*n) (by omega) (by omega),aM (n:=(c.toNat:Int)) (by omega) (by omega),aM (n:=10*n+(c.toNat:Int)) (by omega) (by omega),aM (by omega) (by omega)];omega
        have c6:fJ (F3 (wh.take i)) c=(if(10*n+((c.toNat:Int) -48)>2147483647)then n else 10*n+((c.toNat:Int) -48),decide (10*n+((c.toNat:Int) -48)>2147483647)):=by
         unfold fJ
         rw[←eo,←hn,Bool.false_or]
         have:(n>(2147483647 -((c.toNat:Int) -48)).tdiv 10)↔(10*n+((c.toNat:Int) -48)>2147483647):=by rw[Int.tdiv_eq_ediv_of_nonneg (by omega)];omega
         simp only[this,decide_eq_true_eq]
        refine⟨_,ax gd (bz (ah np (af m46 (ah np (ah (fun _=>np) (ax dg (gI (ax rfl (ah np rfl)) rfl)))))) rfl),⟨by show 0≤az _;rw[w8];omega,by show az _≤_;rw[w8];omega,.inl ⟨i+1,hw1,hlt,rfl,rfl,wi,all1,?_,fun e=>?_⟩⟩,?_⟩
        ·show(false||decide (az _>2147483647))=_
         rw[take1,AR,c6,w8];rfl
        ·have e:(false||decide (az ((az ((az (10*n))+(az ((c.toNat:Int))))) -48)>2147483647))=false:=e
         show az _=_
         rw[w8]at e⊢
         rw[take1,AR,c6]
         rw[Bool.false_or]at e
         rw[if_neg (of_decide_eq_false e)]
        ·show S.length -(az _).toNat<S.length -((pre.length+i:Nat):Int).toNat
         rw[hw1];omega
      ·have nd:¬(((decide ((c.toNat:Int)≥48))&&(decide ((c.toNat:Int)≤57)))=true):=by
        intro h
        apply hd
        unfold b4
        simp at h⊢;omega
       have nd1:¬(((decide ((c.toNat:Int)≥48))&&(decide ((c.toNat:Int)≤57))&&decide ((-1:Int)<0))=true):=fun h=>nd (by rw[Bool.and_eq_true]at h;exact h.1)
       simp only[hi2]
       refine⟨_,ax gd (bz (ah np (af m46 (ah np (ah (fun _=>np) (af nd1 (ah np (ah (fun _=>np) (af nd rfl)))))))) rfl),rfl,?_⟩
       have:wh.all b4=false:=by
        rw[Bool.eq_false_iff]
        intro h
        exact hd (hc▸List.all_eq_true.1 h _ (List.getElem_mem hlt))
       rw[this];rfl
     ·obtain rfl:i=wh.length:=by omega
      rw[List.take_length]at hall eo en
      cases ro with
      |none=>
       have hl:=dy at2
       refine⟨_,af (by show¬decide (_<(S.length:Int))=true;simp;omega) rfl,?_⟩
       exact⟨by rw[hall];rfl,by simp,eo,en,rfl,rfl⟩
      |some r=>
       have at2:S[pre.length+wh.length]? =some 46:=at2
       obtain⟨hl,hi2⟩:=bc at2
       have hw1:=iX (n:=pre.length+wh.length) (by omega)
       simp only[hi2]
       refine⟨_,ax (by show decide (_<(S.length:Int))=true;simp;omega) (bz (ah (by show _∧_<(S.length:Int);omega) (ax rfl rfl)) rfl),⟨n0,n1,.inr ⟨r,0,rfl,hw1,Nat.zero_le _,rfl,rfl,rfl,hall,rfl,eo,en⟩⟩,?_⟩
       show S.length -(az _).toNat<S.length -((pre.length+wh.length:Nat):Int).toNat
       rw[hw1];omega
    ·have ek:k=((pre.length+wh.length+1+i:Nat):Int):=ek
     have ep:point=((pre.length+wh.length:Nat):Int):=ep
     have epa:parts=me 6 (r.take i):=epa
     have ed:digits=((wh.length+i:Nat):Int):=ed
     subst hr;subst ek;subst ep;subst epa;subst ed
     have pr:=wU 6 _ hall
     have p6:me 6 (r.take i)<1000000:=pr.2
     by_cases hlt:i<r.length
     ·have hx:S[pre.length+wh.length+1+i]? =some r[i]:=by rw[at3 r i rfl,List.getElem?_eq_getElem hlt]
      obtain⟨hl,hi2⟩:=bc hx
      have gd:(decide (((pre.length+wh.length+1+i:Nat):Int)<(((⟨S⟩:aL).b.length:Nat):Int)))=true:=by show decide (_<(S.length:Int))=true;simp;omega
      have np:0≤((pre.length+wh.length+1+i:Nat):Int)∧((pre.length+wh.length+1+i:Nat):Int)<(((⟨S⟩:aL).b.length:Nat):Int):=by show _∧_<(S.length:Int);omega
      have hw1:=iX (n:=pre.length+wh.length+1+i) (by omega)
      have take1:r.take (i+1)=r.take i++[r[i]]:=List.take_succ_eq_append_getElem hlt
      have pl:¬((pre.length+wh.length:Nat):Int)<0:=by omega
      have plf:decide (((pre.length+wh.length:Nat):Int)<0)=false:=decide_eq_false pl
      generalize hc:r[i]=c at*
      simp only[hi2,plf,Bool.and_false]
      by_cases hd:((decide ((c.toNat:Int)≥48))&&(decide ((c.toNat:Int)≤57)))=true
      ·have hd2:48≤(c.toNat:Int)∧(c.toNat:Int)≤57:=by simp at hd;omega
       have hdg:b4 c=true:=by unfold b4;simp;omega
       have all1:(r.take (i+1)).all b4=true:=by rw[take1,List.all_append,hall,List.all_cons,hdg];rfl
       have wi:az (((wh.length+i:Nat):Int)+1)=((wh.length+(i+1):Nat):Int):=iX (by omega)
       have wd:az (((pre.length+wh.length+1+i:Nat):Int) -((pre.length+wh.length:Nat):Int))=((i+1:Nat):Int):=by rw[aM (by omega) (by omega)];omega
       have hby0:0≤HP i∧HP i≤100000:=by unfold HP;split<;>decide
       have hti:(r.take i).length=i:=by rw[List.length_take];omega
       have hnew:=RP (r.take i) c
       rw[hti,←take1]at hnew
       have pr1:=wU 6 _ all1
       have p61:me 6 (r.take (i+1))<1000000:=pr1.2
       have hmul:0≤HP i*((c.toNat:Int) -48):=Int.mul_nonneg hby0.1 (by omega)
       have w8:az (me 6 (r.take i)+(az (HP i*(az ((az ((c.toNat:Int))) -48)))))=me 6 (r.take (i+1)):=by rw[aM (n:=(c.toNat:Int)) (by omega) (by omega),aM (n:=(c.toNat:Int) -48) (by omega) (by omega),aM (n:=HP i*((c.toNat:Int) -48)) (by omega) (by omega),hnew,aM (by omega) (by omega)]
       obtain⟨x,hx1,rfl⟩:∃x,(iter (fun((by60,j61):Int×Int)=>
              if(decide (j61<az (((pre.length+wh.length+1+i:Nat):Int) -((pre.length+wh.length:Nat):Int))))&&(decide (j61<7))then
               some (.inl (az (Int.tdiv by60 10),az (j61+1)))
              else
               some (.inr by60)) (100000,1))=some x∧x=HP i:=by
        refine gn (fun(s:Int×Int)=>∃j:Nat,s.2=((j+1:Nat):Int)∧j≤i∧j≤6∧s.1=HP j) (fun s=>(7 -s.2).toNat) (fun z=>z=HP i) ⟨0,rfl,Nat.zero_le _,Nat.zero_le _,rfl⟩ (by show(7 -(1:Int)).toNat<_;decide) ?_
        rintro⟨y,q⟩ ⟨j,eq,hji,hj6,ey⟩
        have eq:q=((j+1:Nat):Int):=eq
        have ey:y=HP j:=ey
        subst eq;subst ey
        by_cases hgo:j<i∧j<6
        ·have wq:az (((j+1:Nat):Int)+1)=((j+1+1:Nat):Int):=iX (by omega)
         have wb:az (Int.tdiv (HP j) 10)=HP (j+1):=by rcases(show j=0∨j=1∨j=2∨j=3∨j=4∨j=5 by omega)with rfl|rfl|rfl|rfl|rfl|rfl<;>decide
         refine⟨_,ax (by rw[wd];simp;omega) rfl,⟨j+1,wq,by omega,by omega,wb⟩,?_⟩
         show(7 -az _).toNat<(7 -((j+1:Nat):Int)).toNat
         rw[wq];omega
        ·refine⟨_,af (by rw[wd];simp;omega) rfl,?_⟩
         show HP j=HP i
         rcases(show j=i∨(j=6∧6≤i) by omega)with rfl|⟨rfl,h6⟩
         ·rfl
         ·obtain⟨m,rfl⟩:∃m,i=m+6:=⟨i -6,by omega⟩
          rfl
       refine⟨_,ax gd (bz (ah np (af nF (ah np (ah (fun _=>np) (af nF (ah np (ah (fun _=>np) (ax hd (gI hx1 (ah np rfl)))))))))) rfl),⟨n0,n1,.inr ⟨r,i+1,rfl,hw1,hlt,rfl,w8,wi,hwa,all1,eo,en⟩⟩,?_⟩
       show S.length -(az _).toNat<S.length -((pre.length+wh.length+1+i:Nat):Int).toNat
       rw[hw1];omega
      ·refine⟨_,ax gd (bz (ah np (af nF (ah np (ah (fun _=>np) (af nF (ah np (ah (fun _=>np) (af hd rfl)))))))) rfl),rfl,?_⟩
       have:r.all b4=false:=by
        rw[Bool.eq_false_iff]
        intro h
        have:=List.all_eq_true.1 h _ (List.getElem_mem hlt)
        rw[hc]at this
        apply hd
        unfold b4 at this
        simp at this⊢;omega
       show(_&&r.all b4)=false
       rw[this,Bool.and_false]
     ·obtain rfl:i=r.length:=by omega
      have hn0:S[pre.length+wh.length+1+r.length]? =none:=by rw[at3 r _ rfl];exact List.getElem?_eq_none_iff.2 (Nat.le_refl _)
      have hl:=dy hn0
      rw[List.take_length]at hall
      refine⟨_,af (by show¬decide (_<(S.length:Int))=true;simp;omega) rfl,?_⟩
      exact⟨by rw[hwa,Bool.true_and];exact hall,rfl,eo,en,by rw[List.take_length];rfl,by show decide (((pre.length+wh.length:Nat):Int)≥0)=true;simp;omega⟩
   ·intro z hz
    cases z with
    |inl a=>exact⟨_,rfl,hz⟩
    |inr a=>exact⟨_,rfl,hz⟩
   ·intro z hz
    have hd0:jW wh (0,false)=if wh.all b4=true then(if(F3 wh).2 then(0,5)else((F3 wh).1,0))else jW wh (0,false):=by
     split
     ·rename_i h;exact Dy wh _ h
     ·rfl
    cases z with
    |inr e=>
     obtain⟨rfl,h⟩:=hz
     refine⟨_,rfl,?_⟩
     have:((wh.length+(ro.getD []).length==0)||!wh.all b4||!(ro.getD []).all b4)=true:=by
      cases h1:wh.all b4 with
      |false=>simp
      |true=>rw[h1,Bool.true_and]at h;rw[h];simp
     show _=SX sg wh ro
     unfold SX
     rw[if_pos this]
    |inl a=>
     obtain⟨n,parts,digits,point,jm⟩:=a
     obtain⟨h1,h2,h3,h4,h5,h6⟩:=hz
     rw[Bool.and_eq_true]at h1
     obtain⟨ha,hr⟩:=h1
     have c0:((wh.length+(ro.getD []).length==0)||!wh.all b4||!(ro.getD []).all b4)=(wh.length+(ro.getD []).length==0):=by rw[ha,hr];simp
     show∃x,(if(digits==0)=true then some ((⟨0,0,⟨[]⟩,[]⟩:aa),(11:Int))else if(jm||decide (point≥0)&&n==2147483647&&decide (parts>0))=true then some ((⟨0,0,⟨[]⟩,[]⟩:aa),(5:Int))else jn (if decide (point≥0)=true then some (⟨3,az (az (1000000*n)+parts),⟨[]⟩,[]⟩:aa)else some (⟨2,n,⟨[]⟩,[]⟩:aa)) fun v75=>jn _ fun v77=>some (v77,(0:Int)))=some x∧x=SX sg wh ro
     unfold SX
     rw[c0,h2,ZS,hd0,if_pos ha,←h3]
     by_cases hz0:(wh.length+(ro.getD []).length==0)=true
     ·exact⟨_,ax hz0 rfl,by rw[if_pos hz0]⟩
     ·rw[if_neg hz0,if_neg hz0]
      cases jm with
      |true=>exact⟨_,ax (by rw[Bool.true_or]) rfl,by rw[if_pos rfl];rfl⟩
      |false=>
       have hn:=h4 rfl
       have rgn:=AW wh (0,false) ha ⟨Int.le_refl _,by show(0:Int)≤2147483647;decide⟩
       have rgn:0≤(F3 wh).1∧(F3 wh).1≤2147483647:=rgn
       rw[if_neg nF,←hn]at*
       show∃x,_=some x∧x=if((0:Int)!=0)=true then _ else _
       rw[if_neg (by decide:¬((0:Int)!=0)=true),Bool.false_or,h6,h5]
       have sgn:∀v:aa,-9000000000000000≤v.N→v.N≤9000000000000000→(bq (((pre.length:Int)==1)=true→0≤(0:Int)∧(0:Int)<(((⟨S⟩:aL).b.length:Nat):Int))<|if(((pre.length:Int)==1)&&(((ix (⟨S⟩:aL).b 0).toNat:Int)==45))=true then some (⟨v.Kind,az (0 -v.N),v.S,v.L⟩:aa)else some v)=some (⟨v.Kind,sg*v.N,v.S,v.L⟩:aa):=fun v v1 v2=>by
        have hSp:0<S.length:=by
         rcases Nat.eq_zero_or_pos S.length with h|h
         ·exact absurd (List.eq_nil_of_length_eq_zero h) h00
         ·exact h
        refine ah (fun _=>⟨Int.le_refl _,by show(0:Int)<(S.length:Int);omega⟩) ?_
        rcases hpre with⟨rfl,rfl,_⟩|⟨rfl,rfl⟩|⟨rfl,rfl⟩
        ·refine af (by show¬((((0:Int)==1)&&_)=true);simp) ?_
         rw[Int.one_mul];cases v;rfl
        ·subst hS
         refine af (by show¬((true&&(((43:UInt8).toNat:Int)==45))=true);decide) ?_
         rw[Int.one_mul];cases v;rfl
        ·subst hS
         refine ax rfl ?_
         rw[aM (by omega) (by omega)]
         congr 2;omega
       cases ro with
       |none=>refine⟨_,af (by show¬((false&&_&&_)=true);simp) (gI (af nF rfl) (gI (sgn ⟨2,n,⟨[]⟩,[]⟩ (by show _≤n;omega) (by show n≤_;omega)) rfl)),rfl⟩
       |some r=>
        have pr:=wU 6 r hr
        have p6:me 6 r<1000000:=pr.2
        show∃x,_=some x∧x=if n*1000000+me 6 r>2147483647000000 then _ else _
        by_cases hov:n*1000000+me 6 r>2147483647000000
        ·rw[if_pos hov]
         exact⟨_,ax (by show(true&&(n==2147483647)&&decide (me 6 r>0))=true;simp;omega) rfl,rfl⟩
        ·rw[if_neg hov]
         have wN:az ((az (1000000*n))+me 6 r)=n*1000000+me 6 r:=by rw[aM (n:=1000000*n) (by omega) (by omega),aM (by omega) (by omega)];omega
         refine⟨_,af (by show¬(true&&(n==2147483647)&&decide (me 6 r>0))=true;simp;omega) (gI (ax rfl (by show some (⟨3,az ((az (1000000*n))+me 6 r),⟨[]⟩,[]⟩:aa)=_;rw[wN])) (gI (sgn ⟨3,n*1000000+me 6 r,⟨[]⟩,[]⟩ (by show _≤n*1000000+me 6 r;omega) (by show n*1000000+me 6 r≤_;omega)) rfl)),rfl⟩
 obtain⟨x,h1,rfl⟩:=key
 exact h1
theorem Zq(s:List UInt8)(hb:s.length<1048576)(h0:s≠[]):dV ⟨s⟩=some (Lk s):=by
 cases s with
 |nil=>exact absurd rfl h0
 |cons c r=>
  by_cases c45:((c.toNat:Int)==45)=true
  ·obtain rfl:c=45:=yW (n:=45) (by decide) c45
   exact NJ [45] r (-1) rfl (.inr (.inr ⟨rfl,rfl⟩)) hb h0
  ·by_cases c43:((c.toNat:Int)==43)=true
   ·obtain rfl:c=43:=yW (n:=43) (by decide) c43
    exact NJ [43] r 1 rfl (.inr (.inl ⟨rfl,rfl⟩)) hb h0
   ·have e:Lk (c::r)=LW 1 (c::r):=by unfold Lk;simp only;rw[if_neg c45,if_neg c43]
    rw[e]
    exact NJ [] (c::r) 1 e (.inl ⟨rfl,rfl,fun c' r' h=>by injection h with h1 h2;subst h1;exact⟨by simpa using c43,by simpa using c45⟩⟩) hb h0
end Go.AB
end
section
set_option linter.unusedSimpArgs false
namespace Go.AB
open Go
def Hi:aa:=⟨0,0,⟨[]⟩,[]⟩
def I8(f:Nat):aF:=⟨0,f,f,Hi,⟨[]⟩⟩
def tok(f t:Nat)(q:aa×Int):aF×Int:=if q.2 !=0 then(I8 f,q.2)else(⟨1,f,t,q.1,⟨[]⟩⟩,0)
def Cr(f:Nat):(List UInt8×Nat)⊕Int→aF×Int
 |.inl r=>(⟨1,f,r.2,⟨4,0,⟨r.1⟩,[]⟩,⟨[]⟩⟩,0)
 |.inr e=>(I8 f,e)
def Pl(c:UInt8):Bool:=((((decide ((c.toNat:Int)≥48))&&(decide ((c.toNat:Int)≤57)))||((c.toNat:Int)==43))||((c.toNat:Int)==45))||((c.toNat:Int)==46)
section
variable(b:List UInt8)(last:Bool)
def KA(f:Nat)(c:UInt8):aF×Int:=
 if Eg c then(if(decide ((qS b f:Int)<(b.length:Int)))||last then(if Pl c then tok f (qS b f) (Lk (part b (f:Int) (qS b f:Int)))else(⟨6,f,qS b f,Hi,⟨part b (f:Int) (qS b f:Int)⟩⟩,0))else(I8 f,6))
 else if(c.toNat:Int)==91 then(⟨2,f,((f+1:Nat):Int),Hi,⟨[]⟩⟩,0)
 else if(c.toNat:Int)==93 then(⟨3,f,((f+1:Nat):Int),Hi,⟨[]⟩⟩,0)
 else if(c.toNat:Int)==60 then(match b[f+1]? with
  |none=>(I8 f,n9 last)
  |some d=>if(d.toNat:Int)==60 then(⟨4,f,((f+2:Nat):Int),Hi,⟨[]⟩⟩,0)else Cr f (F5 b last (b.length+1) ([],-1) (f+1)))
 else if(c.toNat:Int)==62 then(match b[f+1]? with
  |none=>(I8 f,if last then 11 else 6)
  |some d=>if(d.toNat:Int)==62 then(⟨5,f,((f+2:Nat):Int),Hi,⟨[]⟩⟩,0)else(I8 f,11))
 else if(c.toNat:Int)==40 then Cr f (yp b last (b.length+1) 1 [] (f+1))
 else if(c.toNat:Int)==47 then(if(decide ((qS b (f+1):Int)<(b.length:Int)))||last then tok f (qS b (f+1)) (Q1 (part b ((f+1:Nat):Int) (qS b (f+1):Int)))else(I8 f,6))
 else(I8 f,11)
def vd(k:Nat):aF×Int:=match b[Dm b k]? with
 |none=>(I8 (Dm b k),if last then 0 else 6)
 |some c=>KA b last (Dm b k) c
variable{b last}
theorem w9:∀(f:Nat)(c:Bool)(j:Nat),b.length -j≤f→∀x,b[yT b f c j]? =some x→Dp x=false
 |0,c,j,h,x,hx=>by
  have:=(bc hx).1
  rw[yT]at this
  omega
 |f+1,c,j,h,x,hx=>by
  rw[yT]at hx
  cases hy:b[j]? with
  |none=>rw[hy]at hx;simp only at hx;rw[hy]at hx;cases hx
  |some y=>
   have hl:=(bc hy).1
   rw[hy]at hx
   simp only at hx
   split at hx
   ·exact w9 f _ _ (by omega) x hx
   ·split at hx
    ·exact w9 f _ _ (by omega) x hx
    ·split at hx
     ·rename_i h3
      rw[hy]at hx
      injection hx with hx
      subst hx
      simpa using h3
     ·exact w9 f _ _ (by omega) x hx
theorem FT(k:Nat)(hk:k≤b.length):k≤Dm b k∧Dm b k≤b.length:=FU _ _ _ hk
theorem vn(k:Nat)(hk:k≤b.length):k≤qS b k∧qS b k≤b.length:=B9 _ _ hk
theorem Jv{k:Nat}{c:UInt8}(hx:b[k]? =some c)(hc:Eg c=true):k<qS b k:=by
 obtain⟨hl,_⟩:=bc hx
 unfold qS
 obtain⟨m,hm⟩:∃m,b.length=m+1:=⟨b.length -1,by omega⟩
 rw[hm,Ku,hx]
 simp only
 rw[if_pos hc]
 have:=B9 (b:=b) m (k+1) (by omega)
 omega
theorem D9{k e:Nat}{c:UInt8}(hx:b[k]? =some c)(h1:k<e)(h2:e≤b.length):part b (k:Int) (e:Int)=c::part b ((k+1:Nat):Int) (e:Int)∧(part b (k:Int) (e:Int)).length=e -k:=by
 obtain⟨hl,hc⟩:=List.getElem?_eq_some_iff.1 hx
 unfold part
 rw[Int.toNat_natCast,Int.toNat_natCast,show((e:Int) -(k:Int)).toNat=(e -(k+1))+1 by omega,show((e:Int) -((k+1:Nat):Int)).toNat=e -(k+1) by omega,List.drop_eq_getElem_cons hl,hc,List.take_succ_cons]
 refine⟨rfl,?_⟩
 rw[List.length_cons,List.length_take,List.length_drop]
 omega
theorem Hn{k e:Nat}(h1:k≤e)(h2:e≤b.length):(part b (k:Int) (e:Int)).length=e -k:=by
 unfold part
 rw[List.length_take,List.length_drop,Int.toNat_natCast]
 omega
theorem kM:∀(f:Nat)(d:Int)(o:List UInt8)(j:Nat),j≤b.length→PA j b.length (yp b last f d o j)
 |0,d,o,j,_=>te last
 |f+1,d,o,j,hj=>by
  rw[yp]
  cases hx:b[j]? with
  |none=>exact te last
  |some c=>
   have hl:=(bc hx).1
   simp only
   have up:∀{r:(List UInt8×Nat)⊕Int}{j':Nat},j<j'→PA j' b.length r→PA j b.length r:=fun{r j'} h hr=>by
    cases r with
    |inl r=>exact⟨Nat.lt_trans h hr.1,hr.2⟩
    |inr e=>exact hr
   split
   ·have hp:=EO (b:=b) (last:=last) (j+1) (by omega)
    cases hes:Om b last (j+1)with
    |inr e=>rw[hes]at hp;have hp:e=n9 last:=hp;rw[hp];exact te last
    |inl r=>rw[hes]at hp;exact up (by have:=hp.1;omega) (kM f d _ r.2 hp.2.1)
   ·split
    ·cases hy:b[j+1]? with
     |none=>
      simp only
      split
      ·exact up (Nat.lt_succ_self j) (kM f d _ (j+1) (by omega))
      ·exact(by decide:(6:Int)≠0)
     |some e=>
      have hl2:=(bc hy).1
      simp only
      split
      ·exact up (by omega) (kM f d _ (j+2) (by omega))
      ·exact up (Nat.lt_succ_self j) (kM f d _ (j+1) (by omega))
    ·split
     ·exact up (Nat.lt_succ_self j) (kM f _ _ (j+1) (by omega))
     ·split
      ·split
       ·exact⟨Nat.lt_succ_self j,by show j+1≤_;omega⟩
       ·exact up (Nat.lt_succ_self j) (kM f _ _ (j+1) (by omega))
      ·exact up (Nat.lt_succ_self j) (kM f d _ (j+1) (by omega))
def EP(f:Nat)(x:aF×Int×ao):aF×Int:=if x.2.1 !=0 then(I8 f,x.2.1)else(⟨x.1.Kind,f,x.2.2.at_,x.1.V,x.1.S⟩,0)
theorem Sv(hb:b.length<1048576)(f:Nat)(c:UInt8)(hx:b[f]? =some c):∃x,fm ⟨xl.zero,b,(f:Int),last⟩ c=some x∧EP f x=KA b last f c:=by
 obtain⟨hl,hi⟩:=bc hx
 have hw:=iX (n:=f) (by omega)
 unfold fm KA
 refine ME (fun z=>z=Eg c) ⟨_,GW c,rfl⟩ ?_
 rintro _ rfl
 have hru:=vn (b:=b) f (by omega)
 cases hr:Eg c with
 |true=>
  have hlt:=Jv hx hr
  obtain⟨p1,p2⟩:=D9 hx hlt hru.2
  simp only[if_true]
  show∃x,(cj (dP ⟨xl.zero,b,(f:Int),last⟩) fun r2=>some (r2.1,r2.2.1,r2.2.2))=some x∧_
  unfold dP
  rw[QX (by omega) xl.zero f last (by omega),rm]
  show∃x,(cj (if(!((decide ((qS b f:Int)<(b.length:Int)))||last))=true then _ else bq (0≤(0:Int)∧(0:Int)<((part b (f:Int) (qS b f:Int)).length:Int)) (if Pl (ix (part b (f:Int) (qS b f:Int)) 0)=true then _ else _)) _)=some x∧_
  have hix:ix (part b (f:Int) (qS b f:Int)) 0=c:=by rw[p1];rfl
  rw[hix]
  cases hd:(decide ((qS b f:Int)<(b.length:Int)))||last with
  |false=>exact⟨_,ai (ax rfl rfl) rfl,by rw[if_neg nF];rfl⟩
  |true=>
   rw[if_pos rfl]
   have nd:0≤(0:Int)∧(0:Int)<((part b (f:Int) (qS b f:Int)).length:Int):=by rw[p2];omega
   by_cases hn:Pl c=true
   ·rw[if_pos hn,if_pos hn]
    refine⟨_,ai (af nT (ah nd (ai (Y7 _ (by rw[p2];omega)) rfl))) rfl,?_⟩
    unfold EP tok
    rfl
   ·rw[if_neg hn,if_neg hn]
    exact⟨_,ai (af nT (ah nd rfl)) rfl,rfl⟩
 |false=>
  rw[if_neg nF]
  simp only[hw]
  rw[if_neg nF]
  by_cases h91:((c.toNat:Int)==91)=true
  ·rw[if_pos h91,if_pos h91];exact⟨_,rfl,rfl⟩
  rw[if_neg h91,if_neg h91]
  by_cases h93:((c.toNat:Int)==93)=true
  ·rw[if_pos h93,if_pos h93];exact⟨_,rfl,rfl⟩
  rw[if_neg h93,if_neg h93]
  by_cases h60:((c.toNat:Int)==60)=true
  ·rw[if_pos h60,if_pos h60]
   unfold fh
   cases hy:b[f+1]? with
   |none=>exact⟨_,ai (ai (pS hy) (ax rfl (ai (Kd ..) rfl))) rfl,by unfold EP;exact if_pos (by show(n9 last !=0)=true;cases last<;>rfl)⟩
   |some d=>
    have hl2:=(bc hy).1
    have hw2:=iX (n:=f+1) (by omega)
    simp only
    by_cases hd:((d.toNat:Int)==60)=true
    ·rw[if_pos hd]
     refine⟨_,ai (ai (eD hy) (af nT (ax hd rfl))) rfl,?_⟩
     show((⟨4,f,az (((f+1:Nat):Int)+1),Hi,⟨[]⟩⟩:aF),(0:Int))=_
     rw[hw2]
    ·rw[if_neg hd]
     obtain⟨x,x1,x2⟩:=Ss (last:=last) hb false (f+1) (by omega)
     refine⟨_,ai (ai (eD hy) (af nT (af hd (ai (show eF ⟨xl.zero,b,_,last⟩=_ from x1) rfl)))) rfl,?_⟩
     have hp:=vX (b:=b) (last:=last) (b.length+1) ([],-1) (f+1) (by omega)
     cases hq:F5 b last (b.length+1) ([],-1) (f+1)with
     |inl r=>
      rw[hq]at x2
      obtain⟨y1,y2,y3⟩:=x2
      unfold EP Cr
      rw[if_neg (by show¬(x.2.1 !=0)=true;rw[y2];decide)]
      show((⟨1,f,x.2.2.at_,x.1,⟨[]⟩⟩:aF),(0:Int))=_
      rw[y1,y3]
     |inr e=>
      rw[hq]at x2 hp
      have x2:x.2.1=e:=x2
      have hp:e≠0:=hp
      unfold EP Cr
      rw[if_pos (by show(x.2.1 !=0)=true;rw[x2];simpa using hp)]
      show(I8 f,x.2.1)=_
      rw[x2]
  rw[if_neg h60,if_neg h60]
  by_cases h62:((c.toNat:Int)==62)=true
  ·rw[if_pos h62,if_pos h62]
   unfold ff
   cases hy:b[f+1]? with
   |none=>
    cases last with
    |true=>exact⟨_,ai (ai (pS hy) (af nF (ax rfl rfl))) rfl,rfl⟩
    |false=>exact⟨_,ai (ai (pS hy) (ax rfl rfl)) rfl,rfl⟩
   |some d=>
    have hl2:=(bc hy).1
    have hw2:=iX (n:=f+1) (by omega)
    simp only
    by_cases hd:((d.toNat:Int)==62)=true
    ·rw[if_pos hd]
     refine⟨_,ai (ai (eD hy) (af nF (af (by show¬(false||((d.toNat:Int)!=62))=true;simpa using hd) rfl))) rfl,?_⟩
     show((⟨5,f,az (((f+1:Nat):Int)+1),Hi,⟨[]⟩⟩:aF),(0:Int))=_
     rw[hw2]
    ·rw[if_neg hd]
     exact⟨_,ai (ai (eD hy) (af nF (ax (by show(false||((d.toNat:Int)!=62))=true;simpa using hd) rfl))) rfl,rfl⟩
  rw[if_neg h62,if_neg h62]
  by_cases h40:((c.toNat:Int)==40)=true
  ·rw[if_pos h40,if_pos h40]
   obtain⟨x,x1,x2⟩:=Wk (last:=last) hb false (f+1) (by omega)
   refine⟨_,ai (show eW ⟨xl.zero,b,_,last⟩=_ from x1) rfl,?_⟩
   have hp:=kM (b:=b) (last:=last) (b.length+1) 1 [] (f+1) (by omega)
   cases hq:yp b last (b.length+1) 1 [] (f+1)with
   |inl r=>
    rw[hq]at x2
    obtain⟨y1,y2,y3⟩:=x2
    unfold EP Cr
    rw[if_neg (by show¬(x.2.1 !=0)=true;rw[y2];decide)]
    show((⟨1,f,x.2.2.at_,x.1,⟨[]⟩⟩:aF),(0:Int))=_
    rw[y1,y3]
   |inr e=>
    rw[hq]at x2 hp
    have x2:x.2.1=e:=x2
    have hp:e≠0:=hp
    unfold EP Cr
    rw[if_pos (by show(x.2.1 !=0)=true;rw[x2];simpa using hp)]
    show(I8 f,x.2.1)=_
    rw[x2]
  rw[if_neg h40,if_neg h40]
  by_cases h47:((c.toNat:Int)==47)=true
  ·rw[if_pos h47,if_pos h47]
   have hr2:=vn (b:=b) (f+1) (by omega)
   have pl:=Hn (b:=b) hr2.1 hr2.2
   refine ME (fun z=>z=_) ⟨_,QX (by omega) xl.zero (f+1) last (by omega),rfl⟩ ?_
   rintro _ rfl
   cases hd:(decide ((qS b (f+1):Int)<(b.length:Int)))||last with
   |false=>exact⟨_,ax rfl rfl,by rw[if_neg nF];rfl⟩
   |true=>
    rw[if_pos rfl]
    refine⟨_,af nT (ai (Wh (by rw[pl];omega)) rfl),?_⟩
    unfold EP tok
    rfl
  rw[if_neg h47,if_neg h47]
  exact⟨_,rfl,rfl⟩
theorem QW(hb:b.length<1048576)(k:Nat)(hk:k≤b.length):bQ b (k:Int) last=some (vd b last k):=by
 unfold bQ vd
 have hs:=FT (b:=b) k hk
 refine af (by simp;omega) (ai (Wj (by omega) k hk) ?_)
 cases hx:b[Dm b k]? with
 |none=>
  have:=dy hx
  refine ax (by simp;omega) ?_
  cases last<;>rfl
 |some c=>
  obtain⟨hl,hi⟩:=bc hx
  obtain⟨x,x1,x2⟩:=Sv (last:=last) hb (Dm b k) c hx
  refine af (by simp;omega) (ah (by omega) ?_)
  rw[hi]
  refine ai x1 ?_
  show _=some (KA b last (Dm b k) c)
  rw[←x2]
  unfold EP
  by_cases he:(x.2.1 !=0)=true
  ·rw[if_pos he,if_pos he];rfl
  ·rw[if_neg he,if_neg he]
def tR(t:aF):bd:=⟨t.Kind,t.bP,t.To,t.V,t.S⟩
theorem Tz(c:UInt8)(h:Eg c=true):((c.toNat:Int)==91)=false∧((c.toNat:Int)==93)=false∧((c.toNat:Int)==60)=false∧((c.toNat:Int)==62)=false∧((c.toNat:Int)==40)=false∧((c.toNat:Int)==47)=false∧KT c=false:=by
 have:=iQ (fun c=>!Eg c||(!((c.toNat:Int)==91)&&!((c.toNat:Int)==93)&&!((c.toNat:Int)==60)&&!((c.toNat:Int)==62)&&!((c.toNat:Int)==40)&&!((c.toNat:Int)==47)&&!KT c)) (by kernel_rfl) c
 rw[h,Bool.not_true,Bool.false_or]at this
 simp only[Bool.and_eq_true,Bool.not_eq_true']at this
 obtain⟨⟨⟨⟨⟨⟨a,b⟩,c⟩,d⟩,e⟩,f⟩,g⟩:=this
 exact⟨a,b,c,d,e,f,g⟩
theorem HF(k:Nat)(hk:k≤b.length):((qS b k:Int)==(b.length:Int))=!(decide ((qS b k:Int)<(b.length:Int))):=by
 have:=(vn (b:=b) k hk).2
 by_cases h:qS b k=b.length
 ·rw[h];simp
 ·have h1:((qS b k:Int)==(b.length:Int))=false:=by simp;omega
  have h2:decide ((qS b k:Int)<(b.length:Int))=true:=by simp;omega
  rw[h1,h2];rfl
theorem ym(f:Nat){j n:Nat}{T:(List UInt8×Nat)⊕Int}(hp:PA j n T){x:List UInt8×Int×Int}(hx:Rs T x):(if(x.2.2 !=0)=true then some ((⟨0,f,f,⟨0,0,⟨[]⟩,[]⟩,⟨[]⟩⟩:bd),x.2.2)else some ((⟨1,f,x.2.1,⟨4,0,⟨x.1⟩,[]⟩,⟨[]⟩⟩:bd),(0:Int)))=some (tR (Cr f T).1,(Cr f T).2):=by
 cases T with
 |inl r=>
  have hx:x=(r.1,(r.2:Int),0):=hx
  subst hx
  exact af (by show¬(((0:Int)!=0)=true);decide) rfl
 |inr e=>
  have hx:x.2.2=e:=hx
  have hp:e≠0:=hp
  refine ax (by rw[hx];simpa using hp) ?_
  rw[hx];rfl
theorem Tv(hb:b.length<1048576)(k:Nat)(hk:k≤b.length)(c:UInt8)(hx:b[Dm b k]? =some c):cX b (k:Int) last=some (tR (KA b last (Dm b k) c).1,(KA b last (Dm b k) c).2):=by
 have hs:=FT (b:=b) k hk
 have hsp:Dp c=false:=w9 _ _ _ (by omega) c hx
 have hf1:∀f,f=Dm b k→cX b (k:Int) last=some (tR (KA b last f c).1,(KA b last f c).2):=fun f hf=>by
  rw[←hf]at hx hs
  obtain⟨hl,hi⟩:=bc hx
  have hw:=iX (n:=f) (by omega)
  have hw2:az ((f:Int)+2)=((f+2:Nat):Int):=by rw[aM (by omega) (by omega)];rfl
  unfold cX
  refine af (by simp;omega) (ai (Rq (by omega) k hk) ?_)
  rw[←hf]
  refine af (by simp;omega) (ah (by omega) (ai (Xf (by omega) f (by omega)) ?_))
  simp only[hi,hw,hw2]
  have hru:=vn (b:=b) f (by omega)
  have hrb:=HF (b:=b) f (by omega)
  unfold KA
  cases hr:Eg c with
  |true=>
   obtain⟨n91,n93,n60,n62,n40,n47,nd⟩:=Tz c hr
   have hlt:=Jv hx hr
   obtain⟨p1,p2⟩:=D9 hx hlt hru.2
   rw[if_pos rfl]
   refine af (by rw[n91];decide) (af (by rw[n93];decide) (ah (by rw[n60];simp) (af (by rw[n60];simp) (ah (by rw[n62];simp) (af (by rw[n62];simp) (af (by rw[n62];simp) (af (by rw[n60,n40];decide) (af (by rw[n47];decide) (ai (vi c) (af (by rw[nd];decide) ?_))))))))))
   rw[hrb]
   have np:0≤(f:Int)∧(f:Int)≤(qS b f:Int)∧(qS b f:Int)≤(b.length:Int):=by omega
   cases hd:(decide ((qS b f:Int)<(b.length:Int)))||last with
   |false=>
    rw[Bool.or_eq_false_iff]at hd
    rw[if_neg nF,hd.1,hd.2]
    exact ax rfl rfl
   |true=>
    rw[if_pos rfl]
    refine af (by
     intro h
     rw[Bool.and_eq_true]at h
     have h1:decide ((qS b f:Int)<(b.length:Int))=false:=by simpa using h.1
     have h2:last=false:=by simpa using h.2
     rw[h1,h2]at hd;cases hd) ?_
    by_cases hn:Pl c=true
    ·rw[if_pos hn]
     refine ax hn (ah np (ai (Zq _ (by rw[p2];omega) (by rw[p1];exact fun h=>nomatch h)) ?_))
     unfold tok
     generalize Lk (part b (f:Int) (qS b f:Int))=q
     by_cases he:(q.2 !=0)=true
     ·rw[if_pos he,if_pos he];rfl
     ·rw[if_neg he,if_neg he];rfl
    ·rw[if_neg hn]
     exact af hn (ah np rfl)
  |false=>
   rw[if_neg nF]
   by_cases h91:((c.toNat:Int)==91)=true
   ·rw[if_pos h91,if_pos h91];rfl
   rw[if_neg h91,if_neg h91]
   by_cases h93:((c.toNat:Int)==93)=true
   ·rw[if_pos h93,if_pos h93];rfl
   rw[if_neg h93,if_neg h93]
   by_cases h60:((c.toNat:Int)==60)=true
   ·rw[if_pos h60]
    have hc:(c.toNat:Int)=60:=by simpa using h60
    have n62:((c.toNat:Int)==62)=false:=by rw[hc];decide
    have n40:((c.toNat:Int)==40)=false:=by rw[hc];decide
    obtain⟨x,x1,x2⟩:=NI (last:=last) hb (f+1) (by omega)
    have hp:=vX (b:=b) (last:=last) (b.length+1) ([],-1) (f+1) (by omega)
    cases hy:b[f+1]? with
    |none=>
     have hl2:=dy hy
     have hd1:decide (((f+1:Nat):Int)<(b.length:Int))=false:=by simp;omega
     have e:F5 b last (b.length+1) ([],-1) (f+1)=.inr (n9 last):=by rw[F5,hy]
     rw[e]at x2 hp
     refine ah (by rw[hd1];simp) (af (by rw[hd1];simp) (ah (by rw[n62];simp) (af (by rw[n62];simp) (af (by rw[n62];simp) (ax (by rw[h60];rfl) (ai x1 (gI (af (by rw[n40];decide) rfl) (ym f hp x2))))))))
    |some d=>
     obtain⟨hl2,hi2⟩:=bc hy
     have hd1:decide (((f+1:Nat):Int)<(b.length:Int))=true:=by simp;omega
     simp only[hi2]
     by_cases hd:((d.toNat:Int)==60)=true
     ·rw[if_pos hd]
      exact ah (by omega) (ax (by rw[h60,hd1,hd];rfl) rfl)
     ·rw[if_neg hd]
      have hdf:((d.toNat:Int)==60)=false:=by simpa using hd
      exact ah (by omega) (af (by rw[hdf];simp) (ah (by rw[n62];simp) (af (by rw[n62];simp) (af (by rw[n62];simp) (ax (by rw[h60];rfl) (ai x1 (gI (af (by rw[n40];decide) rfl) (ym f hp x2))))))))
   rw[if_neg h60]
   have n60:((c.toNat:Int)==60)=false:=by simpa using h60
   refine ah (by rw[n60];simp) (af (by rw[n60];simp) ?_)
   by_cases h62:((c.toNat:Int)==62)=true
   ·rw[if_pos h62]
    have hc:(c.toNat:Int)=62:=by simpa using h62
    have n40:((c.toNat:Int)==40)=false:=by rw[hc];decide
    have n47:((c.toNat:Int)==47)=false:=by rw[hc];decide
    have hde:KT c=true:=by
     have:=iQ (fun c=>!((c.toNat:Int)==62)||KT c) (by kernel_rfl) c
     rw[h62]at this;exact this
    cases hy:b[f+1]? with
    |none=>
     have hl2:=dy hy
     have hd1:decide (((f+1:Nat):Int)<(b.length:Int))=false:=by simp;omega
     have hd2:(((f+1:Nat):Int)==(b.length:Int))=true:=by simp;omega
     refine ah (by rw[hd1];simp) (af (by rw[hd1];simp) ?_)
     cases last with
     |false=>exact ax (by rw[h62,hd2];rfl) rfl
     |true=>exact af (by simp) (af (by rw[n60,n40];decide) (af (by rw[n47];decide) (ai (vi c) (ax hde rfl))))
    |some d=>
     obtain⟨hl2,hi2⟩:=bc hy
     have hd1:decide (((f+1:Nat):Int)<(b.length:Int))=true:=by simp;omega
     have hd2:(((f+1:Nat):Int)==(b.length:Int))=false:=by simp;omega
     simp only[hi2]
     by_cases hd:((d.toNat:Int)==62)=true
     ·rw[if_pos hd]
      exact ah (by omega) (ax (by rw[h62,hd1,hd];rfl) rfl)
     ·rw[if_neg hd]
      have hdf:((d.toNat:Int)==62)=false:=by simpa using hd
      exact ah (by omega) (af (by rw[hdf];simp) (af (by rw[hd2];simp) (af (by rw[n60,n40];decide) (af (by rw[n47];decide) (ai (vi c) (ax hde rfl))))))
   rw[if_neg h62]
   have n62:((c.toNat:Int)==62)=false:=by simpa using h62
   refine ah (by rw[n62];simp) (af (by rw[n62];simp) (af (by rw[n62];simp) ?_))
   by_cases h40:((c.toNat:Int)==40)=true
   ·rw[if_pos h40]
    obtain⟨x,x1,_⟩:=NI (last:=last) hb (f+1) (by omega)
    obtain⟨y,y1,y2⟩:=Xg (last:=last) hb (f+1) (by omega)
    have hp:=kM (b:=b) (last:=last) (b.length+1) 1 [] (f+1) (by omega)
    exact ax (by rw[h40,Bool.or_true]) (ai x1 (gI (ax h40 (ai y1 rfl)) (ym f hp y2)))
   rw[if_neg h40]
   have n40:((c.toNat:Int)==40)=false:=by simpa using h40
   refine af (by rw[n60,n40];decide) ?_
   by_cases h47:((c.toNat:Int)==47)=true
   ·rw[if_pos h47,if_pos h47]
    have hr2:=vn (b:=b) (f+1) (by omega)
    have pl:=Hn (b:=b) hr2.1 hr2.2
    have hrb:=HF (b:=b) (f+1) (by omega)
    refine ai (Xf (by omega) (f+1) (by omega)) ?_
    rw[hrb]
    cases hd:(decide ((qS b (f+1):Int)<(b.length:Int)))||last with
    |false=>
     rw[Bool.or_eq_false_iff]at hd
     rw[if_neg nF,hd.1,hd.2]
     exact ax rfl rfl
    |true=>
     rw[if_pos rfl]
     refine af (by
      intro h
      rw[Bool.and_eq_true]at h
      have h1:decide ((qS b (f+1):Int)<(b.length:Int))=false:=by simpa using h.1
      have h2:last=false:=by simpa using h.2
      rw[h1,h2]at hd;cases hd) (ah (by omega) (ai (Xe (by rw[pl];omega)) ?_))
     unfold tok
     generalize Q1 (part b ((f+1:Nat):Int) (qS b (f+1):Int))=q
     by_cases he:(q.2 !=0)=true
     ·rw[if_pos he,if_pos he];rfl
     ·rw[if_neg he,if_neg he];rfl
   rw[if_neg h47,if_neg h47]
   have hde:KT c=true:=by
    unfold Eg at hr
    rw[hsp]at hr
    simpa using hr
   exact ai (vi c) (ax hde rfl)
 exact hf1 _ rfl
theorem Rp(hb:b.length<1048576)(k:Nat)(hk:k≤b.length):cX b (k:Int) last=some (tR (vd b last k).1,(vd b last k).2):=by
 cases hx:b[Dm b k]? with
 |none=>
  unfold cX vd
  rw[hx]
  have hs:=FT (b:=b) k hk
  have:=dy hx
  refine af (by simp;omega) (ai (Rq (by omega) k hk) (ax (by simp;omega) ?_))
  cases last<;>rfl
 |some c=>
  have e:vd b last k=KA b last (Dm b k) c:=by unfold vd;rw[hx]
  rw[e]
  exact Tv hb k hk c hx
end
end Go.AB
end
