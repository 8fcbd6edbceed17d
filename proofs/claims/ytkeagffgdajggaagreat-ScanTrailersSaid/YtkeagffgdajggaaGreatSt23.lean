/- A part. -/
import Derived.Test.YtkeagffgdajggaaGreatSt22
set_option linter.unusedSimpArgs false
set_option linter.unusedVariables false
section
namespace Go.AB
open Go
def iP:List UInt8->List UInt8×Option (List UInt8)
 |[]=>([],none)
 |c::l=>if(c.toNat:Int)==46 then([],some l)else(c::(iP l).1,(iP l).2)
theorem AX:∀(l:List UInt8),(match(iP l).2 with
 |none=>Lib.indexByte l 46=-1/\(iP l).1=l
 |some r=>Lib.indexByte l 46=((iP l).1.length:Int)/\l=(iP l).1++46::r)
 |[]=>⟨rfl,rfl⟩
 |c::l=>by
  have e:(c==46)=((c.toNat:Int)==46):=of_decide_eq_true (iL (fun c=>decide ((c==46)=((c.toNat:Int)==46))) (by kernel_rfl) c)
  have ih:=AX l
  rw[iP,Lib.indexByte,e]
  cases h:((c.toNat:Int)==46)with
  |true=>
   rw[if_pos rfl,if_pos rfl]
   obtain rfl:c=46:=zS (n:=46) (by decide) h
   exact⟨rfl,rfl⟩
  |false=>
   rw[if_neg nF,if_neg nF]
   show(match(iP l).2 with
    |none=>(if(Lib.indexByte l 46==-1)=true then -1 else Lib.indexByte l 46+1)=-1/\c::(iP l).1=c::l
    |some r=>(if(Lib.indexByte l 46==-1)=true then -1 else Lib.indexByte l 46+1)=((c::(iP l).1).length:Int)/\c::l=c::(iP l).1++46::r)
   cases h2:(iP l).2 with
   |none=>
    rw[h2]at ih
    obtain⟨i1,i2⟩:=ih
    exact⟨by rw[i1];rfl,by rw[i2]⟩
   |some r=>
    rw[h2]at ih
    obtain⟨i1,i2⟩:=ih
    refine⟨?_,?_⟩
    ·rw[i1,if_neg (by simp<;>omega),List.length_cons];omega
    ·rw[List.cons_append];congr 1
theorem OG(l:List UInt8):(iP l).1.length+((iP l).2.getD []).length<=l.length:=by
 have:=AX l
 cases h:(iP l).2 with
 |none=>rw[h]at this;rw[this.2];simp
 |some r=>
  rw[h]at this
  have:=congrArg List.length this.2
  rw[List.length_append,List.length_cons]at this
  simp only[Option.getD_some];omega
def ma:Nat->List UInt8->Int
 |0,_=>0
 |k+1,l=>(match l with
  |[]=>0
  |c::l=>((c.toNat:Int) -48)*10^k+ma k l)
theorem xj:∀(k:Nat)(l:List UInt8),l.all bN=true->0<=ma k l/\ma k l<10^k
 |0,_,_=>⟨Int.le_refl _,by show(0:Int)<1;decide⟩
 |k+1,[],_=>⟨Int.le_refl _,by show(0:Int)<_;exact Int.pow_pos (by decide)⟩
 |k+1,c::l,h=>by
  rw[List.all_cons,Bool.and_eq_true]at h
  have ih:=xj k l h.2
  have hd:48<=(c.toNat:Int)/\(c.toNat:Int)<=57:=by have:=h.1;unfold bN at this;simp at this;omega
  show 0<=((c.toNat:Int) -48)*10^k+ma k l/\((c.toNat:Int) -48)*10^k+ma k l<_
  have hp:(0:Int)<10^k:=Int.pow_pos (by decide)
  have e:(10:Int)^(k+1)=10*10^k:=by rw[Int.pow_succ,Int.mul_comm]
  rw[e]
  have h1:0<=((c.toNat:Int) -48)*10^k:=Int.mul_nonneg (by omega) (by omega)
  have h2:((c.toNat:Int) -48)*10^k<=9*10^k:=Int.mul_le_mul_of_nonneg_right (by omega) (by omega)
  omega
theorem BH:∀(l:List UInt8)(n:Int),0<=n->l.all bN=true->l.length<=6->(n+1)*10^l.length<=1000000->kj l (n,false)=(n*10^l.length+ma l.length l,0)
 |[],n,_,_,_,_=>by show(n,(0:Int))=(n*1+0,0);rw[Int.mul_one,Int.add_zero]
 |c::l,n,h0,h,hl,hb=>by
  rw[List.all_cons,Bool.and_eq_true]at h
  have hd:48<=(c.toNat:Int)/\(c.toNat:Int)<=57:=by have:=h.1;unfold bN at this;simp at this;omega
  have hp:(0:Int)<10^l.length:=Int.pow_pos (by decide)
  have e:(10:Int)^(l.length+1)=10*10^l.length:=by rw[Int.pow_succ,Int.mul_comm]
  rw[List.length_cons,e]at hb
  have hb':(10*n+((c.toNat:Int) -48)+1)*10^l.length<=1000000:=by
   refine Int.le_trans (Int.mul_le_mul_of_nonneg_right (c:=10^l.length) (show 10*n+((c.toNat:Int) -48)+1<=(n+1)*10 by omega) (by omega)) ?_
   rw[Int.mul_assoc];exact hb
  have hn:n<=1000000:=by
   have:n+1<=(n+1)*(10*10^l.length):=by
    have:(n+1)*1<=(n+1)*(10*10^l.length):=Int.mul_le_mul_of_nonneg_left (by omega) (by omega)
    omega
   omega
  have hs:fq (n,false) c=(10*n+((c.toNat:Int) -48),false):=by
   unfold fq
   have:decide (n>(2147483647 -((c.toNat:Int) -48)).tdiv 10)=false:=by
    rw[decide_eq_false_iff_not,Int.tdiv_eq_ediv_of_nonneg (by omega)]
    omega
   simp[this]
  rw[kj,if_pos h.1,hs,BH l _ (by omega) h.2 (by rw[List.length_cons]at hl;omega) hb',List.length_cons,e]
  show _=(n*(10*10^l.length)+(((c.toNat:Int) -48)*10^l.length+ma l.length l),(0:Int))
  congr 1
  rw[Int.add_mul,Int.mul_comm 10 n,Int.mul_assoc]
  omega
theorem Mn:∀(k:Nat)(l:List UInt8),ma k ((l++List.replicate k 48).take k)=ma k l
 |0,_=>rfl
 |k+1,[]=>by
  have z:∀(k m:Nat),ma k (List.replicate m (48:UInt8))=0:=by
   intro k
   induction k with
   |zero=>intro m;rfl
   |succ k ih=>
    intro m
    cases m with
    |zero=>rfl
    |succ m=>
     rw[List.replicate_succ]
     show(((48:UInt8).toNat:Int) -48)*10^k+ma k (List.replicate m 48)=0
     rw[ih]
     show((48:Int) -48)*10^k+0=0
     simp
  rw[List.nil_append,List.take_replicate,z];rfl
 |k+1,c::l=>by
  rw[List.cons_append,List.take_succ_cons]
  show((c.toNat:Int) -48)*10^k+ma k ((l++List.replicate (k+1) 48).take k)=((c.toNat:Int) -48)*10^k+ma k l
  congr 1
  rw[<-Mn k l,List.replicate_succ',<-List.append_assoc,List.take_append_of_le_length (by simp)]
def P3(sg:Int)(wh:List UInt8)(ro:Option (List UInt8)):aa×Int:=
 if(wh.length+(ro.getD []).length==0)||!wh.all bN||!(ro.getD []).all bN then(⟨0,0,⟨[]⟩,[]⟩,11)
 else if(kj wh (0,false)).2 !=0 then(⟨0,0,⟨[]⟩,[]⟩,5)
 else match ro with
  |none=>(⟨2,sg*(kj wh (0,false)).1,⟨[]⟩,[]⟩,0)
  |some r=>if(kj wh (0,false)).1*1000000+ma 6 r>2147483647000000 then(⟨0,0,⟨[]⟩,[]⟩,5)else(⟨3,sg*((kj wh (0,false)).1*1000000+ma 6 r),⟨[]⟩,[]⟩,0)
def N3(sg:Int)(body:List UInt8):aa×Int:=P3 sg (iP body).1 (iP body).2
def Jo(s:List UInt8):aa×Int:=match s with
 |[]=>N3 1 []
 |c::r=>if(c.toNat:Int)==45 then N3 (-1) r else if(c.toNat:Int)==43 then N3 1 r else N3 1 (c::r)
theorem Iq:∀(l:List UInt8)(n:Int)(o:Bool),0<=n->n<=2147483647->l.all bN=true->0<=(kj l (n,o)).1/\(kj l (n,o)).1<=2147483647/\((kj l (n,o)).2=0\/(kj l (n,o)).2=5)
 |[],n,o,h0,h1,_=>by
  rw[kj]
  cases o with
  |true=>exact⟨by show(0:Int)<=0;decide,by show(0:Int)<=2147483647;decide,.inr rfl⟩
  |false=>exact⟨h0,h1,.inl rfl⟩
 |c::l,n,o,h0,h1,h=>by
  rw[List.all_cons,Bool.and_eq_true]at h
  have hd:48<=(c.toNat:Int)/\(c.toNat:Int)<=57:=by have:=h.1;unfold bN at this;simp at this;omega
  rw[kj,if_pos h.1]
  cases hs:fq (n,o) c with
  |mk m p=>
   have hm:0<=m/\m<=2147483647:=by
    unfold fq at hs
    simp only at hs
    split at hs
    ·injection hs with a b;omega
    ·rename_i hno
     injection hs with a b
     have:¬n>(2147483647 -((c.toNat:Int) -48)).tdiv 10:=by
      intro hh
      apply hno
      rw[decide_eq_true hh,Bool.or_true]
     rw[Int.tdiv_eq_ediv_of_nonneg (by omega)]at this
     omega
   exact Iq l m p hm.1 hm.2 h.2
theorem RM(s:List UInt8)(x:UInt8):bW ⟨s⟩ ⟨[x]⟩=some (match s with
 |[]=>false
 |c::_=>c==x):=by
 unfold bW bL
 cases s with
 |nil=>exact ah (af (by simp) rfl) rfl
 |cons c r=>
  refine ah (af (by simp) rfl) ?_
  have e1:decide ((((⟨c::r⟩:aC).b.length:Nat):Int)>=(((⟨[x]⟩:aC).b.length:Nat):Int))=true:=by simp;omega
  have e2:(aC.mk (part (c::r) 0 ((((⟨[x]⟩:aC).b.length:Nat):Int)))).b=[c]:=by unfold part;simp
  rw[e1,e2,Bool.true_and]
  show some ([c]==[x])=some (c==x)
  congr 1
  show(c==x&&([]==([]:List UInt8)))=_
  rw[show(([]:List UInt8)==[])=true from rfl,Bool.and_true]
theorem U5(body:List UInt8)(hb:body.length<1048576):hG ⟨body⟩ ⟨[46]⟩=some (⟨(iP body).1⟩,⟨(iP body).2.getD []⟩,(iP body).2.isSome):=by
 unfold hG cw
 have DL:dW ⟨body⟩ ⟨[46]⟩=some (Lib.indexByte body 46):=rfl
 have:=AX body
 refine ah (a:=(⟨(iP body).1⟩,⟨(iP body).2.getD []⟩,(iP body).2.isSome)) (ah DL ?_) rfl
 cases h:(iP body).2 with
 |none=>
  rw[h]at this
  rw[this.2]
  exact ae (by rw[this.1];decide) rfl
 |some r=>
  rw[h]at this
  obtain⟨i1,i2⟩:=this
  have hl:=congrArg List.length i2
  rw[List.length_append,List.length_cons]at hl
  rw[i1]
  generalize(iP body).1=wh at*
  have w1:ao ((wh.length:Int)+(((⟨[46]⟩:aC).b.length:Nat):Int))=((wh.length+1:Nat):Int):=by
   show ao ((wh.length:Int)+1)=_
   exact iX (by omega)
  rw[w1]
  refine al (by simp) (af (by show 0<=(0:Int)/\0<=(wh.length:Int)/\(wh.length:Int)<=(body.length:Int);omega) (af (by show 0<=((wh.length+1:Nat):Int)/\((wh.length+1:Nat):Int)<=(body.length:Int)/\(body.length:Int)<=(body.length:Int);omega) ?_))
  have p1:part body 0 (wh.length:Int)=wh:=by
   unfold part
   rw[show(0:Int).toNat=0 from rfl,List.drop_zero,Int.sub_zero,Int.toNat_natCast]
   conv=>lhs;rw[i2]
   exact List.take_left
  have p2:part body ((wh.length+1:Nat):Int) (body.length:Int)=r:=by
   unfold part
   rw[Int.toNat_natCast,show((body.length:Int) -((wh.length+1:Nat):Int)).toNat=r.length by omega]
   conv=>lhs;rw[i2]
   rw[List.drop_append,List.drop_eq_nil_of_le (by omega),List.nil_append,show wh.length+1 -wh.length=1 by omega]
   show(r.take r.length)=r
   exact List.take_length
  show some ((⟨part body 0 _⟩:aC),(⟨part body _ _⟩:aC),true)=_
  rw[p1,p2];rfl
theorem nb0(k:Nat):((k:Int)==0)=(k==0):=by cases k<;>simp<;>omega
theorem Wg(r:List UInt8)(hb:r.length<1048576)(h:r.all bN=true):eT ⟨r⟩=some (ma 6 r):=by
 unfold eT
 have hl:((aC.mk (r++(aC.mk [48,48,48,48,48,48]).b)).b).length=r.length+6:=by simp
 have e:(aC.mk (part (aC.mk (r++(aC.mk [48,48,48,48,48,48]).b)).b 0 6)).b=(r++List.replicate 6 48).take 6:=by unfold part;rfl
 refine af (by show(((r.length+6:Nat):Int))<=Kz;unfold Kz;omega) (af ⟨Int.le_refl _,by decide,by rw[hl];omega⟩ (ah (a:=(ma 6 r,0)) ?_ rfl))
 unfold jk
 rw[e]
 have hlen:((r++List.replicate 6 48).take 6).length=6:=by simp
 have cE:((r++List.replicate 6 48).take 6).all bN=true:=by
  rw[List.all_eq_true]
  intro x hx
  rcases List.mem_append.1 (List.mem_of_mem_take hx)with h1|h1
  ·exact List.all_eq_true.1 h x h1
  ·rw[(List.mem_replicate.1 h1).2];rfl
 rw[if_neg (by intro h0;rw[h0]at hlen;cases hlen),BH _ 0 (Int.le_refl _) cE (by omega) (by rw[hlen];decide),hlen,Mn]
 simp
theorem P5{s:List UInt8}{F:Int×aC->Option (aa×Int)}{o:Option (Int×aC)}{sg:Int}{body:List UInt8}{r:aa×Int}(h:o=some (sg,⟨body⟩))(k:F (sg,⟨body⟩)=some r)(e:Jo s=r):jn o F=some (Jo s):=by rw[h,e];exact k
theorem adY(s:List UInt8)(hb:s.length<1048576):kI ⟨s⟩=some (Jo s):=by
 unfold kI
 obtain⟨sg,body,h1,h2,h3,h4⟩:∃(sg:Int)(body:List UInt8),(ba (bW ⟨s⟩ (aC.mk [45])) fun r4=>
  if r4 then
   aH (0<=(1:Int)/\1<=(((⟨s⟩:aC).b.length:Nat):Int)/\(((⟨s⟩:aC).b.length:Nat):Int)<=(((⟨s⟩:aC).b.length:Nat):Int))<|
   some ((-1),aC.mk (part s 1 (s.length:Int)))
  else
   ba (bW ⟨s⟩ (aC.mk [43])) fun r5=>
   if r5 then
    aH (0<=(1:Int)/\1<=(((⟨s⟩:aC).b.length:Nat):Int)/\(((⟨s⟩:aC).b.length:Nat):Int)<=(((⟨s⟩:aC).b.length:Nat):Int))<|
    some (1,aC.mk (part s 1 (s.length:Int)))
   else
    some (1,⟨s⟩))=some (sg,⟨body⟩)/\Jo s=N3 sg body/\(sg=1\/sg=-1)/\body.length<=s.length:=by
  cases s with
  |nil=>exact⟨1,[],ah (RM [] 45) (ae nF (ah (RM [] 43) (ae nF rfl))),rfl,.inl rfl,Nat.le_refl _⟩
  |cons c r=>
   have e45:(c==45)=((c.toNat:Int)==45):=of_decide_eq_true (iL (fun c=>decide ((c==45)=((c.toNat:Int)==45))) (by kernel_rfl) c)
   have e43:(c==43)=((c.toNat:Int)==43):=of_decide_eq_true (iL (fun c=>decide ((c==43)=((c.toNat:Int)==43))) (by kernel_rfl) c)
   have pr:part (c::r) 1 ((c::r).length:Int)=r:=by
    unfold part
    rw[show(1:Int).toNat=1 from rfl,List.length_cons,show(((r.length+1:Nat):Int) -1).toNat=r.length by omega]
    show r.take r.length=r
    exact List.take_length
   have nd:0<=(1:Int)/\1<=(((c::r).length:Nat):Int)/\(((c::r).length:Nat):Int)<=(((c::r).length:Nat):Int):=by rw[List.length_cons];omega
   have h45:=RM (c::r) 45
   have h43:=RM (c::r) 43
   simp only[e45]at h45
   simp only[e43]at h43
   by_cases c45:((c.toNat:Int)==45)=true
   ·refine⟨-1,r,ah h45 (al c45 (af nd ?_)),by unfold Jo;simp only;rw[if_pos c45],.inr rfl,by simp⟩
    rw[pr]
   ·by_cases c43:((c.toNat:Int)==43)=true
    ·refine⟨1,r,ah h45 (ae c45 (ah h43 (al c43 (af nd ?_)))),by unfold Jo;simp only;rw[if_neg c45,if_pos c43],.inl rfl,by simp⟩
     rw[pr]
    ·exact⟨1,c::r,ah h45 (ae c45 (ah h43 (ae c43 rfl))),by unfold Jo;simp only;rw[if_neg c45,if_neg c43],.inl rfl,Nat.le_refl _⟩
 refine P5 (r:=N3 sg body) h1 ?_ h2
 refine ah (U5 body (by omega)) ?_
 have hlen:=OG body
 unfold N3
 generalize hwr:iP body=q at hlen
 obtain⟨wh,ro⟩:=q
 show(ba (dQ (!((ao ((wh.length:Int)+((ro.getD []).length:Int)))==0)) false (kN ⟨wh⟩)) _)=some (P3 sg wh ro)
 unfold P3
 have wl:ao ((wh.length:Int)+((ro.getD []).length:Int))=((wh.length+(ro.getD []).length:Nat):Int):=by
  have hlen:wh.length+(ro.getD []).length<=body.length:=hlen
  rw[au (by omega) (by omega)];rfl
 have hlen:wh.length+(ro.getD []).length<=body.length:=hlen
 have wz:((ao ((wh.length:Int)+((ro.getD []).length:Int)))==0)=((wh.length+(ro.getD []).length)==0):=by rw[wl];exact nb0 _
 simp only[wz]
 cases hz:((wh.length+(ro.getD []).length)==0)with
 |true=>
  rw[Bool.true_or,Bool.true_or,if_pos rfl]
  exact ah (NP rfl) (ah (NP rfl) (al rfl rfl))
 |false=>
  rw[Bool.false_or,Bool.not_false,kS]
  refine ah (show kN ⟨wh⟩=some (wh.all bN) from rfl) ?_
  cases ha:wh.all bN with
  |false=>
   rw[Bool.not_false,Bool.true_or,if_pos rfl]
   exact ah (NP rfl) (al rfl rfl)
  |true=>
   rw[Bool.not_true,Bool.false_or,Bool.false_or,Bool.not_false,kS]
   refine ah (show kN ⟨ro.getD []⟩=some ((ro.getD []).all bN) from rfl) ?_
   cases hr:(ro.getD []).all bN with
   |false=>
    rw[Bool.not_false,if_pos rfl]
    exact al rfl rfl
   |true=>
    rw[Bool.not_true,if_neg nF]
    refine ae nF (af (by show(((1+wh.length:Nat):Int))<=Kz;unfold Kz;omega) ?_)
    have d0:fq (0,false) 48=(0,false):=by decide
    have hd:jk (aC.mk ((aC.mk [48]).b++(⟨wh⟩:aC).b))=some (kj wh (0,false)):=by
     show some (kj (48::wh) (0,false))=_
     rw[kj,if_pos (show bN 48=true from rfl),d0]
    refine ah hd ?_
    have rg:=Iq wh 0 false (Int.le_refl _) (by decide) ha
    generalize kj wh (0,false)=n at rg
    obtain⟨n,e⟩:=n
    obtain⟨n0,n1,n2⟩:=rg
    have n0:0<=n:=n0
    have n1:n<=2147483647:=n1
    have n2:e=0\/e=5:=n2
    rcases n2 with rfl|rfl
    ·refine ae nF ?_
     have h0:¬(((n,(0:Int)).2 !=0)=true):=by show¬(((0:Int)!=0)=true);decide
     rw[if_neg h0]
     cases ro with
     |none=>
      refine al rfl ?_
      show some ((⟨2,ao (sg*n),⟨[]⟩,[]⟩:aa),(0:Int))=some (⟨2,sg*n,⟨[]⟩,[]⟩,0)
      rw[au (by rcases h3 with rfl|rfl<;>omega) (by rcases h3 with rfl|rfl<;>omega)]
     |some r=>
      have hr:r.all bN=true:=hr
      have hrl:r.length<=body.length:=by simp only[Option.getD_some]at hlen;omega
      refine ae nF (ah (Wg r (by omega) hr) ?_)
      have pr:=xj 6 r hr
      have p6:ma 6 r<1000000:=pr.2
      have wN:ao (sg*(ao ((ao (n*1000000))+ma 6 r)))=sg*(n*1000000+ma 6 r):=by rw[au (n:=n*1000000) (by omega) (by omega),au (n:=n*1000000+ma 6 r) (by omega) (by omega),au (by rcases h3 with rfl|rfl<;>omega) (by rcases h3 with rfl|rfl<;>omega)]
      simp only[wN]
      have abX:ao (0 -2147483647000000)=-2147483647000000:=by decide
      by_cases hov:n*1000000+ma 6 r>2147483647000000
      ·rw[if_pos hov]
       refine ah (a:=2) ?_ (al rfl rfl)
       unfold kH
       refine aN (z:=.inl 2147483647000000) (ae (by show¬((3:Int)==2)=true;decide) (al rfl rfl)) (al ?_ rfl)
       simp only[abX]
       rcases h3 with rfl|rfl
       ·simp;omega
       ·simp;omega
      ·rw[if_neg hov]
       refine ah (a:=0) ?_ (ae (by decide) rfl)
       unfold kH
       refine aN (z:=.inl 2147483647000000) (ae (by show¬((3:Int)==2)=true;decide) (al rfl rfl)) (ae ?_ rfl)
       simp only[abX]
       rcases h3 with rfl|rfl
       ·simp;omega
       ·simp;omega
    ·have h5:((n,(5:Int)).2 !=0)=true:=rfl
     rw[if_pos h5,if_pos h5]
def HN(l:List UInt8):Int×Bool:=l.foldl fq (0,false)
theorem EE:∀(l:List UInt8)(q:Int×Bool),l.all bN=true->kj l q=if(l.foldl fq q).2 then(0,5)else((l.foldl fq q).1,0)
 |[],q,_=>rfl
 |c::l,q,h=>by
  rw[List.all_cons,Bool.and_eq_true]at h
  rw[kj,if_pos h.1,EE l _ h.2];rfl
theorem BI:∀(l:List UInt8)(q:Int×Bool),l.all bN=true->0<=q.1/\q.1<=2147483647->0<=(l.foldl fq q).1/\(l.foldl fq q).1<=2147483647
 |[],q,_,h=>h
 |c::l,q,h,hq=>by
  rw[List.all_cons,Bool.and_eq_true]at h
  have hd:48<=(c.toNat:Int)/\(c.toNat:Int)<=57:=by have:=h.1;unfold bN at this;simp at this;omega
  refine BI l _ h.2 ?_
  unfold fq
  simp only
  split
  ·exact hq
  ·rename_i hno
   have:¬q.1>(2147483647 -((c.toNat:Int) -48)).tdiv 10:=by
    intro hh
    apply hno
    rw[decide_eq_true hh,Bool.or_true]
   rw[Int.tdiv_eq_ediv_of_nonneg (by omega)]at this
   show 0<=10*q.1+((c.toNat:Int) -48)/\10*q.1+((c.toNat:Int) -48)<=2147483647
   omega
def JV:Nat->Int
 |0=>100000
 |1=>10000
 |2=>1000
 |3=>100
 |4=>10
 |5=>1
 |_=>0
theorem Mm:∀(k:Nat)(l:List UInt8)(c:UInt8),ma k (l++[c])=ma k l+(if l.length<k then((c.toNat:Int) -48)*10^(k -1 -l.length)else 0)
 |0,l,c=>by simp[ma]
 |k+1,[],c=>by
  show((c.toNat:Int) -48)*10^k+ma k []=0+if 0<k+1 then((c.toNat:Int) -48)*10^k else 0
  rw[if_pos (by omega)]
  have:ma k []=0:=by cases k<;>rfl
  omega
 |k+1,x::l,c=>by
  rw[List.cons_append]
  show((x.toNat:Int) -48)*10^k+ma k (l++[c])=((x.toNat:Int) -48)*10^k+ma k l+_
  rw[Mm k l c,List.length_cons,Int.add_assoc]
  congr 2
  by_cases h:l.length<k
  ·rw[if_pos h,if_pos (by omega),show k+1 -1 -(l.length+1)=k -1 -l.length by omega]
  ·rw[if_neg h,if_neg (by omega)]
theorem UX(l:List UInt8)(c:UInt8):ma 6 (l++[c])=ma 6 l+JV l.length*((c.toNat:Int) -48):=by
 rw[Mm,Int.mul_comm]
 congr 1
 by_cases h:l.length<6
 ·rw[if_pos h]
  rcases(show l.length=0\/l.length=1\/l.length=2\/l.length=3\/l.length=4\/l.length=5 by omega)with h|h|h|h|h|h<;>rw[h]<;>rfl
 ·rw[if_neg h]
  obtain⟨m,hm⟩:∃m,l.length=m+6:=⟨l.length -6,by omega⟩
  rw[hm]
  rw[show JV (m+6)=0 from rfl,Int.zero_mul]
theorem LK:∀(l:List UInt8),∀c∈(iP l).1,((c.toNat:Int)==46)=false
 |[],c,h=>by cases h
 |x::l,c,h=>by
  rw[iP]at h
  cases hx:((x.toNat:Int)==46)with
  |true=>rw[if_pos hx]at h;cases h
  |false=>
   rw[if_neg (by rw[hx];decide)]at h
   rcases List.mem_cons.1 h with rfl|h
   ·exact hx
   ·exact LK l c h
def UH:Option (List UInt8)->List UInt8
 |none=>[]
 |some r=>46::r
def ZJ:Option (List UInt8)->Option UInt8
 |none=>none
 |some _=>some 46
theorem MT(l:List UInt8):l=(iP l).1++UH (iP l).2:=by
 have:=AX l
 cases h:(iP l).2 with
 |none=>rw[h]at this;rw[this.2];exact(List.append_nil _).symm
 |some r=>rw[h]at this;exact this.2
theorem BG(l:List UInt8)(c:UInt8):HN (l++[c])=fq (HN l) c:=by unfold HN;rw[List.foldl_append];rfl
def NuI(pre wh:List UInt8)(ro:Option (List UInt8))(s:Int×Int×Int×Int×Bool×Int):Prop:=
 0<=s.1/\s.1<=1000000000000/\
 ((∃i:Nat,s.2.2.2.2.2=((pre.length+i:Nat):Int)/\i<=wh.length/\s.2.2.2.1=-1/\s.2.1=0/\s.2.2.1=(i:Int)/\(wh.take i).all bN=true/\s.2.2.2.2.1=(HN (wh.take i)).2/\(s.2.2.2.2.1=false->s.1=(HN (wh.take i)).1))\/
  (∃(r:List UInt8)(i:Nat),ro=some r/\s.2.2.2.2.2=((pre.length+wh.length+1+i:Nat):Int)/\i<=r.length/\s.2.2.2.1=((pre.length+wh.length:Nat):Int)/\s.2.1=ma 6 (r.take i)/\s.2.2.1=((wh.length+i:Nat):Int)/\wh.all bN=true/\(r.take i).all bN=true/\s.2.2.2.2.1=(HN wh).2/\(s.2.2.2.2.1=false->s.1=(HN wh).1)))
def NuO(wh:List UInt8)(ro:Option (List UInt8))(z:(Int×Int×Int×Int×Bool)⊕Int):Prop:=match z with
 |.inr e=>e=11/\(wh.all bN&&(ro.getD []).all bN)=false
 |.inl (n,parts,digits,CL,jl)=>(wh.all bN&&(ro.getD []).all bN)=true/\digits=((wh.length+(ro.getD []).length:Nat):Int)/\jl=(HN wh).2/\(jl=false->n=(HN wh).1)/\parts=ma 6 (ro.getD [])/\decide (CL>=0)=ro.isSome
theorem Qo(pre body:List UInt8)(sg:Int)(hs:Jo (pre++body)=N3 sg body)(Pm:(pre=[]/\sg=1/\∀c r,body=c::r->((c.toNat:Int)==43)=false/\((c.toNat:Int)==45)=false)\/(pre=[43]/\sg=1)\/(pre=[45]/\sg=-1))(hb:(pre++body).length<1048576)(h00:pre++body≠[]):fx ⟨pre++body⟩=some (N3 sg body):=by
 have key:∃x,fx ⟨pre++body⟩=some x/\x=N3 sg body:=by
  have hp1:pre.length<=1:=by rcases Pm with⟨rfl,_⟩|⟨rfl,_⟩|⟨rfl,_⟩<;>simp
  have hbl:(pre++body).length=pre.length+body.length:=List.length_append
  have ZH:=MT body
  have hne:=LK body
  unfold N3
  generalize hwr:iP body=q at ZH hne
  obtain⟨wh,ro⟩:=q
  have hne:∀c∈wh,((c.toNat:Int)==46)=false:=hne
  have mG:body=wh++UH ro:=ZH
  have at1:∀i,i<wh.length->(pre++body)[pre.length+i]? =wh[i]? :=fun i h=>by rw[List.getElem?_append_right (by omega),Nat.add_sub_cancel_left,mG,List.getElem?_append_left h]
  have at2:(pre++body)[pre.length+wh.length]? =ZJ ro:=by
   rw[List.getElem?_append_right (by omega),Nat.add_sub_cancel_left,mG,List.getElem?_append_right (by omega),Nat.sub_self]
   cases ro<;>rfl
  have at3:∀r i,ro=some r->(pre++body)[pre.length+wh.length+1+i]? =r[i]? :=fun r i h=>by
   subst h
   rw[List.getElem?_append_right (by omega),mG,List.getElem?_append_right (by omega)]
   rw[show pre.length+wh.length+1+i -pre.length -wh.length=i+1 by omega]
   rfl
  unfold fx
  refine TT (fun z=>z=(pre.length:Int)) ?_ ?_
  ·rcases Pm with⟨rfl,_,h⟩|⟨rfl,_⟩|⟨rfl,_⟩
   ·cases hbo:body with
    |nil=>exact absurd (by rw[hbo];rfl) h00
    |cons c r=>
     obtain⟨h1,h2⟩:=h c r hbo
     have hix:ix (([]:List UInt8)++c::r) 0=c:=rfl
     exact⟨_,af (by simp<;>omega) (af (by simp<;>omega) (ae (by show¬(_&&((((ix (([]:List UInt8)++c::r) 0).toNat:Int)==43)||(((ix (([]:List UInt8)++c::r) 0).toNat:Int)==45)))=true;rw[hix,h1,h2];simp) rfl)),rfl⟩
   ·exact⟨_,af (by simp<;>omega) (af (by simp<;>omega) (al (by show(decide ((((([43]:List UInt8)++body).length:Nat):Int)>0)&&true)=true;simp<;>omega) rfl)),rfl⟩
   ·exact⟨_,af (by simp<;>omega) (af (by simp<;>omega) (al (by show(decide ((((([45]:List UInt8)++body).length:Nat):Int)>0)&&true)=true;simp<;>omega) rfl)),rfl⟩
  ·rintro _ rfl
   generalize hS:pre++body=S at*
   refine uN (NuO wh ro) (pK (NuO wh ro) (dn (NuI pre wh ro) (fun s=>S.length -s.2.2.2.2.2.toNat) (NuO wh ro) ⟨Int.le_refl _,by show(0:Int)<=1000000000000;decide,.inl ⟨0,rfl,Nat.zero_le _,rfl,rfl,rfl,rfl,rfl,fun _=>rfl⟩⟩ (by show S.length -_<_;omega) ?_) ?_) ?_
   ·rintro⟨n,parts,digits,CL,jl,k⟩ ⟨n0,n1,hI⟩
    have n0:0<=n:=n0
    have n1:n<=1000000000000:=n1
    have rg:∀l:List UInt8,l.all bN=true->0<=(HN l).1/\(HN l).1<=2147483647:=fun l h=>BI l (0,false) h ⟨Int.le_refl _,by show(0:Int)<=2147483647;decide⟩
    rcases hI with⟨i,ek,hi,ep,epa,ed,cE,eo,en⟩|⟨r,i,hr,ek,hi,ep,epa,ed,hwa,cE,eo,en⟩
    ·have ek:k=((pre.length+i:Nat):Int):=ek
     have ep:CL=-1:=ep
     have epa:parts=0:=epa
     have ed:digits=(i:Int):=ed
     have eo:jl=(HN (wh.take i)).2:=eo
     have en:jl=false->n=(HN (wh.take i)).1:=en
     subst ek;subst ep;subst epa;subst ed
     by_cases hlt:i<wh.length
     ·have hx:S[pre.length+i]? =some wh[i]:=by rw[at1 i hlt,List.getElem?_eq_getElem hlt]
      obtain⟨hl,hi2⟩:=a8 hx
      have n46:=hne _ (List.getElem_mem hlt)
      have gd:(decide (((pre.length+i:Nat):Int)<(((⟨S⟩:aC).b.length:Nat):Int)))=true:=by show decide (_<(S.length:Int))=true;simp;omega
      have np:0<=((pre.length+i:Nat):Int)/\((pre.length+i:Nat):Int)<(((⟨S⟩:aC).b.length:Nat):Int):=by show _/\_<(S.length:Int);omega
      have hw1:=iX (n:=pre.length+i) (by omega)
      have Dq:wh.take (i+1)=wh.take i++[wh[i]]:=List.take_succ_eq_append_getElem hlt
      generalize hc:wh[i]=c at*
      have m46:¬((((c.toNat:Int)==46)&&decide ((-1:Int)<0))=true):=by rw[n46];decide
      by_cases hd:bN c=true
      ·have hd2:48<=(c.toNat:Int)/\(c.toNat:Int)<=57:=by have:=hd;unfold bN at this;simp at this;omega
       have dg:((decide ((c.toNat:Int)>=48))&&(decide ((c.toNat:Int)<=57))&&decide ((-1:Int)<0))=true:=by simp;omega
       have Oc:(wh.take (i+1)).all bN=true:=by rw[Dq,List.all_append,cE,List.all_cons,hd];rfl
       have wi:ao ((i:Int)+1)=((i+1:Nat):Int):=iX (by omega)
       simp only[hi2]
       cases jl with
       |true=>
        refine⟨_,al gd (aN (af np (ae m46 (af np (af (fun _=>np) (al dg (eu (ae nT rfl) rfl)))))) rfl),⟨n0,n1,.inl ⟨i+1,hw1,hlt,rfl,rfl,wi,Oc,?_,fun e=>(by cases e)⟩⟩,?_⟩
        ·show true=_
         rw[Dq,BG]
         unfold fq
         simp only
         rw[<-eo];rfl
        ·show S.length -(ao _).toNat<S.length -((pre.length+i:Nat):Int).toNat
         rw[hw1];omega
       |false=>
        have hn:=en rfl
        have hr2:=rg _ cE
        have w8:ao ((ao ((ao (10*n))+(ao ((c.toNat:Int))))) -48)=10*n+((c.toNat:Int) -48):=by rw[au (n:=10*n) (by omega) (by omega),au (n:=(c.toNat:Int)) (by omega) (by omega),au (n:=10*n+(c.toNat:Int)) (by omega) (by omega),au (by omega) (by omega)];omega
        have cj:fq (HN (wh.take i)) c=(if(10*n+((c.toNat:Int) -48)>2147483647)then n else 10*n+((c.toNat:Int) -48),decide (10*n+((c.toNat:Int) -48)>2147483647)):=by
         unfold fq
         rw[<-eo,<-hn,Bool.false_or]
         have:(n>(2147483647 -((c.toNat:Int) -48)).tdiv 10)↔(10*n+((c.toNat:Int) -48)>2147483647):=by rw[Int.tdiv_eq_ediv_of_nonneg (by omega)];omega
         simp only[this,decide_eq_true_eq]
        refine⟨_,al gd (aN (af np (ae m46 (af np (af (fun _=>np) (al dg (eu (al rfl (af np rfl)) rfl)))))) rfl),⟨by show 0<=ao _;rw[w8];omega,by show ao _<=_;rw[w8];omega,.inl ⟨i+1,hw1,hlt,rfl,rfl,wi,Oc,?_,fun e=>?_⟩⟩,?_⟩
        ·show(false||decide (ao _>2147483647))=_
         rw[Dq,BG,cj,w8];rfl
        ·have e:(false||decide (ao ((ao ((ao (10*n))+(ao ((c.toNat:Int))))) -48)>2147483647))=false:=e
         show ao _=_
         rw[w8]at e⊢
         rw[Dq,BG,cj]
         rw[Bool.false_or]at e
         rw[if_neg (of_decide_eq_false e)]
        ·show S.length -(ao _).toNat<S.length -((pre.length+i:Nat):Int).toNat
         rw[hw1];omega
      ·have nd:¬(((decide ((c.toNat:Int)>=48))&&(decide ((c.toNat:Int)<=57)))=true):=by
        intro h
        apply hd
        unfold bN
        simp at h⊢;omega
       have nd1:¬(((decide ((c.toNat:Int)>=48))&&(decide ((c.toNat:Int)<=57))&&decide ((-1:Int)<0))=true):=fun h=>nd (by rw[Bool.and_eq_true]at h;exact h.1)
       simp only[hi2]
       refine⟨_,al gd (aN (af np (ae m46 (af np (af (fun _=>np) (ae nd1 (af np (af (fun _=>np) (ae nd rfl)))))))) rfl),rfl,?_⟩
       have:wh.all bN=false:=by
        rw[Bool.eq_false_iff]
        intro h
        exact hd (hc▸List.all_eq_true.1 h _ (List.getElem_mem hlt))
       rw[this];rfl
     ·obtain rfl:i=wh.length:=by omega
      rw[List.take_length]at cE eo en
      cases ro with
      |none=>
       have hl:=c5 at2
       refine⟨_,ae (by show¬decide (_<(S.length:Int))=true;simp;omega) rfl,?_⟩
       exact⟨by rw[cE];rfl,by simp,eo,en,rfl,rfl⟩
      |some r=>
       have at2:S[pre.length+wh.length]? =some 46:=at2
       obtain⟨hl,hi2⟩:=a8 at2
       have hw1:=iX (n:=pre.length+wh.length) (by omega)
       simp only[hi2]
       refine⟨_,al (by show decide (_<(S.length:Int))=true;simp;omega) (aN (af (by show _/\_<(S.length:Int);omega) (al rfl rfl)) rfl),⟨n0,n1,.inr ⟨r,0,rfl,hw1,Nat.zero_le _,rfl,rfl,rfl,cE,rfl,eo,en⟩⟩,?_⟩
       show S.length -(ao _).toNat<S.length -((pre.length+wh.length:Nat):Int).toNat
       rw[hw1];omega
    ·have ek:k=((pre.length+wh.length+1+i:Nat):Int):=ek
     have ep:CL=((pre.length+wh.length:Nat):Int):=ep
     have epa:parts=ma 6 (r.take i):=epa
     have ed:digits=((wh.length+i:Nat):Int):=ed
     subst hr;subst ek;subst ep;subst epa;subst ed
     have pr:=xj 6 _ cE
     have p6:ma 6 (r.take i)<1000000:=pr.2
     by_cases hlt:i<r.length
     ·have hx:S[pre.length+wh.length+1+i]? =some r[i]:=by rw[at3 r i rfl,List.getElem?_eq_getElem hlt]
      obtain⟨hl,hi2⟩:=a8 hx
      have gd:(decide (((pre.length+wh.length+1+i:Nat):Int)<(((⟨S⟩:aC).b.length:Nat):Int)))=true:=by show decide (_<(S.length:Int))=true;simp;omega
      have np:0<=((pre.length+wh.length+1+i:Nat):Int)/\((pre.length+wh.length+1+i:Nat):Int)<(((⟨S⟩:aC).b.length:Nat):Int):=by show _/\_<(S.length:Int);omega
      have hw1:=iX (n:=pre.length+wh.length+1+i) (by omega)
      have Dq:r.take (i+1)=r.take i++[r[i]]:=List.take_succ_eq_append_getElem hlt
      have pl:¬((pre.length+wh.length:Nat):Int)<0:=by omega
      have plf:decide (((pre.length+wh.length:Nat):Int)<0)=false:=decide_eq_false pl
      generalize hc:r[i]=c at*
      simp only[hi2,plf,Bool.and_false]
      by_cases hd:((decide ((c.toNat:Int)>=48))&&(decide ((c.toNat:Int)<=57)))=true
      ·have hd2:48<=(c.toNat:Int)/\(c.toNat:Int)<=57:=by simp at hd;omega
       have hdg:bN c=true:=by unfold bN;simp;omega
       have Oc:(r.take (i+1)).all bN=true:=by rw[Dq,List.all_append,cE,List.all_cons,hdg];rfl
       have wi:ao (((wh.length+i:Nat):Int)+1)=((wh.length+(i+1):Nat):Int):=iX (by omega)
       have wd:ao (((pre.length+wh.length+1+i:Nat):Int) -((pre.length+wh.length:Nat):Int))=((i+1:Nat):Int):=by rw[au (by omega) (by omega)];omega
       have ady:0<=JV i/\JV i<=100000:=by unfold JV;split<;>decide
       have hti:(r.take i).length=i:=by rw[List.length_take];omega
       have IQ:=UX (r.take i) c
       rw[hti,<-Dq]at IQ
       have pr1:=xj 6 _ Oc
       have p61:ma 6 (r.take (i+1))<1000000:=pr1.2
       have hmul:0<=JV i*((c.toNat:Int) -48):=Int.mul_nonneg ady.1 (by omega)
       have w8:ao (ma 6 (r.take i)+(ao (JV i*(ao ((ao ((c.toNat:Int))) -48)))))=ma 6 (r.take (i+1)):=by rw[au (n:=(c.toNat:Int)) (by omega) (by omega),au (n:=(c.toNat:Int) -48) (by omega) (by omega),au (n:=JV i*((c.toNat:Int) -48)) (by omega) (by omega),IQ,au (by omega) (by omega)]
       obtain⟨x,hx1,rfl⟩:∃x,(iter (fun((Ib,j61):Int×Int)=>
              if(decide (j61<ao (((pre.length+wh.length+1+i:Nat):Int) -((pre.length+wh.length:Nat):Int))))&&(decide (j61<7))then
               some (.inl (ao (Int.tdiv Ib 10),ao (j61+1)))
              else
               some (.inr Ib)) (100000,1))=some x/\x=JV i:=by
        refine dn (fun(s:Int×Int)=>∃j:Nat,s.2=((j+1:Nat):Int)/\j<=i/\j<=6/\s.1=JV j) (fun s=>(7 -s.2).toNat) (fun z=>z=JV i) ⟨0,rfl,Nat.zero_le _,Nat.zero_le _,rfl⟩ (by show(7 -(1:Int)).toNat<_;decide) ?_
        rintro⟨y,q⟩ ⟨j,eq,hji,hj6,ey⟩
        have eq:q=((j+1:Nat):Int):=eq
        have ey:y=JV j:=ey
        subst eq;subst ey
        by_cases hgo:j<i/\j<6
        ·have wq:ao (((j+1:Nat):Int)+1)=((j+1+1:Nat):Int):=iX (by omega)
         have wb:ao (Int.tdiv (JV j) 10)=JV (j+1):=by rcases(show j=0\/j=1\/j=2\/j=3\/j=4\/j=5 by omega)with rfl|rfl|rfl|rfl|rfl|rfl<;>decide
         refine⟨_,al (by rw[wd];simp;omega) rfl,⟨j+1,wq,by omega,by omega,wb⟩,?_⟩
         show(7 -ao _).toNat<(7 -((j+1:Nat):Int)).toNat
         rw[wq];omega
        ·refine⟨_,ae (by rw[wd];simp;omega) rfl,?_⟩
         show JV j=JV i
         rcases(show j=i\/(j=6/\6<=i) by omega)with rfl|⟨rfl,h6⟩
         ·rfl
         ·obtain⟨m,rfl⟩:∃m,i=m+6:=⟨i -6,by omega⟩
          rfl
       refine⟨_,al gd (aN (af np (ae nF (af np (af (fun _=>np) (ae nF (af np (af (fun _=>np) (al hd (eu hx1 (af np rfl)))))))))) rfl),⟨n0,n1,.inr ⟨r,i+1,rfl,hw1,hlt,rfl,w8,wi,hwa,Oc,eo,en⟩⟩,?_⟩
       show S.length -(ao _).toNat<S.length -((pre.length+wh.length+1+i:Nat):Int).toNat
       rw[hw1];omega
      ·refine⟨_,al gd (aN (af np (ae nF (af np (af (fun _=>np) (ae nF (af np (af (fun _=>np) (ae hd rfl)))))))) rfl),rfl,?_⟩
       have:r.all bN=false:=by
        rw[Bool.eq_false_iff]
        intro h
        have:=List.all_eq_true.1 h _ (List.getElem_mem hlt)
        rw[hc]at this
        apply hd
        unfold bN at this
        simp at this⊢;omega
       show(_&&r.all bN)=false
       rw[this,Bool.and_false]
     ·obtain rfl:i=r.length:=by omega
      have hn0:S[pre.length+wh.length+1+r.length]? =none:=by rw[at3 r _ rfl];exact List.getElem?_eq_none_iff.2 (Nat.le_refl _)
      have hl:=c5 hn0
      rw[List.take_length]at cE
      refine⟨_,ae (by show¬decide (_<(S.length:Int))=true;simp;omega) rfl,?_⟩
      exact⟨by rw[hwa,Bool.true_and];exact cE,rfl,eo,en,by rw[List.take_length];rfl,by show decide (((pre.length+wh.length:Nat):Int)>=0)=true;simp;omega⟩
   ·intro z hz
    cases z with
    |inl a=>exact⟨_,rfl,hz⟩
    |inr a=>exact⟨_,rfl,hz⟩
   ·intro z hz
    have hd0:kj wh (0,false)=if wh.all bN=true then(if(HN wh).2 then(0,5)else((HN wh).1,0))else kj wh (0,false):=by
     split
     ·rename_i h;exact EE wh _ h
     ·rfl
    cases z with
    |inr e=>
     obtain⟨rfl,h⟩:=hz
     refine⟨_,rfl,?_⟩
     have:((wh.length+(ro.getD []).length==0)||!wh.all bN||!(ro.getD []).all bN)=true:=by
      cases h1:wh.all bN with
      |false=>simp
      |true=>rw[h1,Bool.true_and]at h;rw[h];simp
     show _=P3 sg wh ro
     unfold P3
     rw[if_pos this]
    |inl a=>
     obtain⟨n,parts,digits,CL,jl⟩:=a
     obtain⟨h1,h2,h3,h4,h5,h6⟩:=hz
     rw[Bool.and_eq_true]at h1
     obtain⟨ha,hr⟩:=h1
     have c0:((wh.length+(ro.getD []).length==0)||!wh.all bN||!(ro.getD []).all bN)=(wh.length+(ro.getD []).length==0):=by rw[ha,hr];simp
     show∃x,(if(digits==0)=true then some ((⟨0,0,⟨[]⟩,[]⟩:aa),(11:Int))else if(jl||decide (CL>=0)&&n==2147483647&&decide (parts>0))=true then some ((⟨0,0,⟨[]⟩,[]⟩:aa),(5:Int))else jn (if decide (CL>=0)=true then some (⟨3,ao (ao (1000000*n)+parts),⟨[]⟩,[]⟩:aa)else some (⟨2,n,⟨[]⟩,[]⟩:aa)) fun v75=>jn _ fun v77=>some (v77,(0:Int)))=some x/\x=P3 sg wh ro
     unfold P3
     rw[c0,h2,nb0,hd0,if_pos ha,<-h3]
     by_cases hz0:(wh.length+(ro.getD []).length==0)=true
     ·exact⟨_,al hz0 rfl,by rw[if_pos hz0]⟩
     ·rw[if_neg hz0,if_neg hz0]
      cases jl with
      |true=>exact⟨_,al (by rw[Bool.true_or]) rfl,by rw[if_pos rfl];rfl⟩
      |false=>
       have hn:=h4 rfl
       have rgn:=BI wh (0,false) ha ⟨Int.le_refl _,by show(0:Int)<=2147483647;decide⟩
       have rgn:0<=(HN wh).1/\(HN wh).1<=2147483647:=rgn
       rw[if_neg nF,<-hn]at*
       show∃x,_=some x/\x=if((0:Int)!=0)=true then _ else _
       rw[if_neg (by decide:¬((0:Int)!=0)=true),Bool.false_or,h6,h5]
       have sgn:∀v:aa,-9000000000000000<=v.N->v.N<=9000000000000000->(aH (((pre.length:Int)==1)=true->0<=(0:Int)/\(0:Int)<(((⟨S⟩:aC).b.length:Nat):Int))<|if(((pre.length:Int)==1)&&(((ix (⟨S⟩:aC).b 0).toNat:Int)==45))=true then some (⟨v.Kind,ao (0 -v.N),v.S,v.L⟩:aa)else some v)=some (⟨v.Kind,sg*v.N,v.S,v.L⟩:aa):=fun v v1 v2=>by
        have hSp:0<S.length:=by
         rcases Nat.eq_zero_or_pos S.length with h|h
         ·exact absurd (List.eq_nil_of_length_eq_zero h) h00
         ·exact h
        refine af (fun _=>⟨Int.le_refl _,by show(0:Int)<(S.length:Int);omega⟩) ?_
        rcases Pm with⟨rfl,rfl,_⟩|⟨rfl,rfl⟩|⟨rfl,rfl⟩
        ·refine ae (by show¬((((0:Int)==1)&&_)=true);simp) ?_
         rw[Int.one_mul];cases v;rfl
        ·subst hS
         refine ae (by show¬((true&&(((43:UInt8).toNat:Int)==45))=true);decide) ?_
         rw[Int.one_mul];cases v;rfl
        ·subst hS
         refine al rfl ?_
         rw[au (by omega) (by omega)]
         congr 2;omega
       cases ro with
       |none=>refine⟨_,ae (by show¬((false&&_&&_)=true);simp) (eu (ae nF rfl) (eu (sgn ⟨2,n,⟨[]⟩,[]⟩ (by show _<=n;omega) (by show n<=_;omega)) rfl)),rfl⟩
       |some r=>
        have pr:=xj 6 r hr
        have p6:ma 6 r<1000000:=pr.2
        show∃x,_=some x/\x=if n*1000000+ma 6 r>2147483647000000 then _ else _
        by_cases hov:n*1000000+ma 6 r>2147483647000000
        ·rw[if_pos hov]
         exact⟨_,al (by show(true&&(n==2147483647)&&decide (ma 6 r>0))=true;simp;omega) rfl,rfl⟩
        ·rw[if_neg hov]
         have wN:ao ((ao (1000000*n))+ma 6 r)=n*1000000+ma 6 r:=by rw[au (n:=1000000*n) (by omega) (by omega),au (by omega) (by omega)];omega
         refine⟨_,ae (by show¬(true&&(n==2147483647)&&decide (ma 6 r>0))=true;simp;omega) (eu (al rfl (by show some (⟨3,ao ((ao (1000000*n))+ma 6 r),⟨[]⟩,[]⟩:aa)=_;rw[wN])) (eu (sgn ⟨3,n*1000000+ma 6 r,⟨[]⟩,[]⟩ (by show _<=n*1000000+ma 6 r;omega) (by show n*1000000+ma 6 r<=_;omega)) rfl)),rfl⟩
 obtain⟨x,h1,rfl⟩:=key
 exact h1
theorem aeh(s:List UInt8)(hb:s.length<1048576)(h0:s≠[]):fx ⟨s⟩=some (Jo s):=by
 cases s with
 |nil=>exact absurd rfl h0
 |cons c r=>
  by_cases c45:((c.toNat:Int)==45)=true
  ·obtain rfl:c=45:=zS (n:=45) (by decide) c45
   exact Qo [45] r (-1) rfl (.inr (.inr ⟨rfl,rfl⟩)) hb h0
  ·by_cases c43:((c.toNat:Int)==43)=true
   ·obtain rfl:c=43:=zS (n:=43) (by decide) c43
    exact Qo [43] r 1 rfl (.inr (.inl ⟨rfl,rfl⟩)) hb h0
   ·have e:Jo (c::r)=N3 1 (c::r):=by unfold Jo;simp only;rw[if_neg c45,if_neg c43]
    rw[e]
    exact Qo [] (c::r) 1 e (.inl ⟨rfl,rfl,fun c' r' h=>by injection h with h1 h2;subst h1;exact⟨by simpa using c43,by simpa using c45⟩⟩) hb h0
def GU:aa:=⟨0,0,⟨[]⟩,[]⟩
def N2(f:Nat):ar:=⟨0,f,f,GU,⟨[]⟩⟩
def tok(f t:Nat)(q:aa×Int):ar×Int:=if q.2 !=0 then(N2 f,q.2)else(⟨1,f,t,q.1,⟨[]⟩⟩,0)
def Dl(f:Nat):(List UInt8×Nat)⊕Int->ar×Int
 |.inl r=>(⟨1,f,r.2,⟨4,0,⟨r.1⟩,[]⟩,⟨[]⟩⟩,0)
 |.inr e=>(N2 f,e)
def Sp(c:UInt8):Bool:=((((decide ((c.toNat:Int)>=48))&&(decide ((c.toNat:Int)<=57)))||((c.toNat:Int)==43))||((c.toNat:Int)==45))||((c.toNat:Int)==46)
section
variable(b:List UInt8)(last:Bool)
def Ln(f:Nat)(c:UInt8):ar×Int:=
 if Fs c then(if(decide ((p8 b f:Int)<(b.length:Int)))||last then(if Sp c then tok f (p8 b f) (Jo (part b (f:Int) (p8 b f:Int)))else(⟨6,f,p8 b f,GU,⟨part b (f:Int) (p8 b f:Int)⟩⟩,0))else(N2 f,6))
 else if(c.toNat:Int)==91 then(⟨2,f,((f+1:Nat):Int),GU,⟨[]⟩⟩,0)
 else if(c.toNat:Int)==93 then(⟨3,f,((f+1:Nat):Int),GU,⟨[]⟩⟩,0)
 else if(c.toNat:Int)==60 then(match b[f+1]? with
  |none=>(N2 f,nk last)
  |some d=>if(d.toNat:Int)==60 then(⟨4,f,((f+2:Nat):Int),GU,⟨[]⟩⟩,0)else Dl f (HP b last (b.length+1) ([],-1) (f+1)))
 else if(c.toNat:Int)==62 then(match b[f+1]? with
  |none=>(N2 f,if last then 11 else 6)
  |some d=>if(d.toNat:Int)==62 then(⟨5,f,((f+2:Nat):Int),GU,⟨[]⟩⟩,0)else(N2 f,11))
 else if(c.toNat:Int)==40 then Dl f (zl b last (b.length+1) 1 [] (f+1))
 else if(c.toNat:Int)==47 then(if(decide ((p8 b (f+1):Int)<(b.length:Int)))||last then tok f (p8 b (f+1)) (Me (part b ((f+1:Nat):Int) (p8 b (f+1):Int)))else(N2 f,6))
 else(N2 f,11)
def gU(k:Nat):ar×Int:=match b[De b k]? with
 |none=>(N2 (De b k),if last then 0 else 6)
 |some c=>Ln b last (De b k) c
variable{b last}
theorem xq:∀(f:Nat)(c:Bool)(j:Nat),b.length -j<=f->∀x,b[zP b f c j]? =some x->Es x=false
 |0,c,j,h,x,hx=>by
  have:=(a8 hx).1
  rw[zP]at this
  omega
 |f+1,c,j,h,x,hx=>by
  rw[zP]at hx
  cases hy:b[j]? with
  |none=>rw[hy]at hx;simp only at hx;rw[hy]at hx;cases hx
  |some y=>
   have hl:=(a8 hy).1
   rw[hy]at hx
   simp only at hx
   split at hx
   ·exact xq f _ _ (by omega) x hx
   ·split at hx
    ·exact xq f _ _ (by omega) x hx
    ·split at hx
     ·rename_i h3
      rw[hy]at hx
      injection hx with hx
      subst hx
      simpa using h3
     ·exact xq f _ _ (by omega) x hx
theorem HE(k:Nat)(hk:k<=b.length):k<=De b k/\De b k<=b.length:=HF _ _ _ hk
theorem vq(k:Nat)(hk:k<=b.length):k<=p8 b k/\p8 b k<=b.length:=Dc _ _ hk
theorem Lg{k:Nat}{c:UInt8}(hx:b[k]? =some c)(hc:Fs c=true):k<p8 b k:=by
 obtain⟨hl,_⟩:=a8 hx
 unfold p8
 obtain⟨m,hm⟩:∃m,b.length=m+1:=⟨b.length -1,by omega⟩
 rw[hm,Mu,hx]
 simp only
 rw[if_pos hc]
 have:=Dc (b:=b) m (k+1) (by omega)
 omega
theorem Fi{k e:Nat}{c:UInt8}(hx:b[k]? =some c)(h1:k<e)(h2:e<=b.length):part b (k:Int) (e:Int)=c::part b ((k+1:Nat):Int) (e:Int)/\(part b (k:Int) (e:Int)).length=e -k:=by
 obtain⟨hl,hc⟩:=List.getElem?_eq_some_iff.1 hx
 unfold part
 rw[Int.toNat_natCast,Int.toNat_natCast,show((e:Int) -(k:Int)).toNat=(e -(k+1))+1 by omega,show((e:Int) -((k+1:Nat):Int)).toNat=e -(k+1) by omega,List.drop_eq_getElem_cons hl,hc,List.take_succ_cons]
 refine⟨rfl,?_⟩
 rw[List.length_cons,List.length_take,List.length_drop]
 omega
theorem CI{k e:Nat}(h1:k<=e)(h2:e<=b.length):(part b (k:Int) (e:Int)).length=e -k:=by
 unfold part
 rw[List.length_take,List.length_drop,Int.toNat_natCast]
 omega
theorem kR:∀(f:Nat)(d:Int)(o:List UInt8)(j:Nat),j<=b.length->Su j b.length (zl b last f d o j)
 |0,d,o,j,_=>vR last
 |f+1,d,o,j,hj=>by
  rw[zl]
  cases hx:b[j]? with
  |none=>exact vR last
  |some c=>
   have hl:=(a8 hx).1
   simp only
   have up:∀{r:(List UInt8×Nat)⊕Int}{j':Nat},j<j'->Su j' b.length r->Su j b.length r:=fun{r j'} h hr=>by
    cases r with
    |inl r=>exact⟨Nat.lt_trans h hr.1,hr.2⟩
    |inr e=>exact hr
   split
   ·have hp:=Gc (b:=b) (last:=last) (j+1) (by omega)
    cases hes:Q8 b last (j+1)with
    |inr e=>rw[hes]at hp;have hp:e=nk last:=hp;rw[hp];exact vR last
    |inl r=>rw[hes]at hp;exact up (by have:=hp.1;omega) (kR f d _ r.2 hp.2.1)
   ·split
    ·cases hy:b[j+1]? with
     |none=>
      simp only
      split
      ·exact up (Nat.lt_succ_self j) (kR f d _ (j+1) (by omega))
      ·exact(by decide:(6:Int)≠0)
     |some e=>
      have hl2:=(a8 hy).1
      simp only
      split
      ·exact up (by omega) (kR f d _ (j+2) (by omega))
      ·exact up (Nat.lt_succ_self j) (kR f d _ (j+1) (by omega))
    ·split
     ·exact up (Nat.lt_succ_self j) (kR f _ _ (j+1) (by omega))
     ·split
      ·split
       ·exact⟨Nat.lt_succ_self j,by show j+1<=_;omega⟩
       ·exact up (Nat.lt_succ_self j) (kR f _ _ (j+1) (by omega))
      ·exact up (Nat.lt_succ_self j) (kR f d _ (j+1) (by omega))
def Ge(f:Nat)(x:ar×Int×ak):ar×Int:=if x.2.1 !=0 then(N2 f,x.2.1)else(⟨x.1.Kind,f,x.2.2.at_,x.1.V,x.1.S⟩,0)
theorem VX(hb:b.length<1048576)(f:Nat)(c:UInt8)(hx:b[f]? =some c):∃x,fV ⟨zo.zero,b,(f:Int),last⟩ c=some x/\Ge f x=Ln b last f c:=by
 obtain⟨hl,hi⟩:=a8 hx
 have hw:=iX (n:=f) (by omega)
 unfold fV Ln
 refine OT (fun z=>z=Fs c) ⟨_,I8 c,rfl⟩ ?_
 rintro _ rfl
 have hru:=vq (b:=b) f (by omega)
 cases hr:Fs c with
 |true=>
  have hlt:=Lg hx hr
  obtain⟨p1,p2⟩:=Fi hx hlt hru.2
  simp only[if_true]
  show∃x,(ba (dU ⟨zo.zero,b,(f:Int),last⟩) fun r2=>some (r2.1,r2.2.1,r2.2.2))=some x/\_
  unfold dU
  rw[T7 (by omega) zo.zero f last (by omega),bC]
  show∃x,(ba (if(!((decide ((p8 b f:Int)<(b.length:Int)))||last))=true then _ else aH (0<=(0:Int)/\(0:Int)<((part b (f:Int) (p8 b f:Int)).length:Int)) (if Sp (ix (part b (f:Int) (p8 b f:Int)) 0)=true then _ else _)) _)=some x/\_
  have hix:ix (part b (f:Int) (p8 b f:Int)) 0=c:=by rw[p1];rfl
  rw[hix]
  cases hd:(decide ((p8 b f:Int)<(b.length:Int)))||last with
  |false=>exact⟨_,ah (al rfl rfl) rfl,by rw[if_neg nF];rfl⟩
  |true=>
   rw[if_pos rfl]
   have nd:0<=(0:Int)/\(0:Int)<((part b (f:Int) (p8 b f:Int)).length:Int):=by rw[p2];omega
   by_cases hn:Sp c=true
   ·rw[if_pos hn,if_pos hn]
    refine⟨_,ah (ae nT (af nd (ah (adY _ (by rw[p2];omega)) rfl))) rfl,?_⟩
    unfold Ge tok
    rfl
   ·rw[if_neg hn,if_neg hn]
    exact⟨_,ah (ae nT (af nd rfl)) rfl,rfl⟩
 |false=>
  rw[if_neg nF]
  simp only[hw]
  rw[if_neg nF]
  by_cases h91:((c.toNat:Int)==91)=true
  ·rw[if_pos h91,if_pos h91];exact⟨_,rfl,rfl⟩
  rw[if_neg h91,if_neg h91]
  by_cases h93:((c.toNat:Int)==93)=true
  ·rw[if_pos h93,if_pos h93];exact⟨_,rfl,rfl⟩
  rw[if_neg h93,if_neg h93]
  by_cases h60:((c.toNat:Int)==60)=true
  ·rw[if_pos h60,if_pos h60]
   unfold fU
   cases hy:b[f+1]? with
   |none=>exact⟨_,ah (ah (pR hy) (al rfl (ah (L8 ..) rfl))) rfl,by unfold Ge;exact if_pos (by show(nk last !=0)=true;cases last<;>rfl)⟩
   |some d=>
    have hl2:=(a8 hy).1
    have hw2:=iX (n:=f+1) (by omega)
    simp only
    by_cases hd:((d.toNat:Int)==60)=true
    ·rw[if_pos hd]
     refine⟨_,ah (ah (dM hy) (ae nT (al hd rfl))) rfl,?_⟩
     show((⟨4,f,ao (((f+1:Nat):Int)+1),GU,⟨[]⟩⟩:ar),(0:Int))=_
     rw[hw2]
    ·rw[if_neg hd]
     obtain⟨x,x1,x2⟩:=VV (last:=last) hb false (f+1) (by omega)
     refine⟨_,ah (ah (dM hy) (ae nT (ae hd (ah (show eR ⟨zo.zero,b,_,last⟩=_ from x1) rfl)))) rfl,?_⟩
     have hp:=we (b:=b) (last:=last) (b.length+1) ([],-1) (f+1) (by omega)
     cases hq:HP b last (b.length+1) ([],-1) (f+1)with
     |inl r=>
      rw[hq]at x2
      obtain⟨y1,y2,y3⟩:=x2
      unfold Ge Dl
      rw[if_neg (by show¬(x.2.1 !=0)=true;rw[y2];decide)]
      show((⟨1,f,x.2.2.at_,x.1,⟨[]⟩⟩:ar),(0:Int))=_
      rw[y1,y3]
     |inr e=>
      rw[hq]at x2 hp
      have x2:x.2.1=e:=x2
      have hp:e≠0:=hp
      unfold Ge Dl
      rw[if_pos (by show(x.2.1 !=0)=true;rw[x2];simpa using hp)]
      show(N2 f,x.2.1)=_
      rw[x2]
  rw[if_neg h60,if_neg h60]
  by_cases h62:((c.toNat:Int)==62)=true
  ·rw[if_pos h62,if_pos h62]
   unfold fS
   cases hy:b[f+1]? with
   |none=>
    cases last with
    |true=>exact⟨_,ah (ah (pR hy) (ae nF (al rfl rfl))) rfl,rfl⟩
    |false=>exact⟨_,ah (ah (pR hy) (al rfl rfl)) rfl,rfl⟩
   |some d=>
    have hl2:=(a8 hy).1
    have hw2:=iX (n:=f+1) (by omega)
    simp only
    by_cases hd:((d.toNat:Int)==62)=true
    ·rw[if_pos hd]
     refine⟨_,ah (ah (dM hy) (ae nF (ae (by show¬(false||((d.toNat:Int)!=62))=true;simpa using hd) rfl))) rfl,?_⟩
     show((⟨5,f,ao (((f+1:Nat):Int)+1),GU,⟨[]⟩⟩:ar),(0:Int))=_
     rw[hw2]
    ·rw[if_neg hd]
     exact⟨_,ah (ah (dM hy) (ae nF (al (by show(false||((d.toNat:Int)!=62))=true;simpa using hd) rfl))) rfl,rfl⟩
  rw[if_neg h62,if_neg h62]
  by_cases h40:((c.toNat:Int)==40)=true
  ·rw[if_pos h40,if_pos h40]
   obtain⟨x,x1,x2⟩:=aao (last:=last) hb false (f+1) (by omega)
   refine⟨_,ah (show fE ⟨zo.zero,b,_,last⟩=_ from x1) rfl,?_⟩
   have hp:=kR (b:=b) (last:=last) (b.length+1) 1 [] (f+1) (by omega)
   cases hq:zl b last (b.length+1) 1 [] (f+1)with
   |inl r=>
    rw[hq]at x2
    obtain⟨y1,y2,y3⟩:=x2
    unfold Ge Dl
    rw[if_neg (by show¬(x.2.1 !=0)=true;rw[y2];decide)]
    show((⟨1,f,x.2.2.at_,x.1,⟨[]⟩⟩:ar),(0:Int))=_
    rw[y1,y3]
   |inr e=>
    rw[hq]at x2 hp
    have x2:x.2.1=e:=x2
    have hp:e≠0:=hp
    unfold Ge Dl
    rw[if_pos (by show(x.2.1 !=0)=true;rw[x2];simpa using hp)]
    show(N2 f,x.2.1)=_
    rw[x2]
  rw[if_neg h40,if_neg h40]
  by_cases h47:((c.toNat:Int)==47)=true
  ·rw[if_pos h47,if_pos h47]
   have hr2:=vq (b:=b) (f+1) (by omega)
   have pl:=CI (b:=b) hr2.1 hr2.2
   refine OT (fun z=>z=_) ⟨_,T7 (by omega) zo.zero (f+1) last (by omega),rfl⟩ ?_
   rintro _ rfl
   cases hd:(decide ((p8 b (f+1):Int)<(b.length:Int)))||last with
   |false=>exact⟨_,al rfl rfl,by rw[if_neg nF];rfl⟩
   |true=>
    rw[if_pos rfl]
    refine⟨_,ae nT (ah (aam (by rw[pl];omega)) rfl),?_⟩
    unfold Ge tok
    rfl
  rw[if_neg h47,if_neg h47]
  exact⟨_,rfl,rfl⟩
theorem L7(hb:b.length<1048576)(k:Nat)(hk:k<=b.length):dp b (k:Int) last=some (gU b last k):=by
 unfold dp gU
 have hs:=HE (b:=b) k hk
 refine ae (by simp;omega) (ah (aan (by omega) k hk) ?_)
 cases hx:b[De b k]? with
 |none=>
  have:=c5 hx
  refine al (by simp;omega) ?_
  cases last<;>rfl
 |some c=>
  obtain⟨hl,hi⟩:=a8 hx
  obtain⟨x,x1,x2⟩:=VX (last:=last) hb (De b k) c hx
  refine ae (by simp;omega) (af (by omega) ?_)
  rw[hi]
  refine ah x1 ?_
  show _=some (Ln b last (De b k) c)
  rw[<-x2]
  unfold Ge
  by_cases he:(x.2.1 !=0)=true
  ·rw[if_pos he,if_pos he];rfl
  ·rw[if_neg he,if_neg he]
def tR(t:ar):aK:=⟨t.Kind,t.bA,t.To,t.V,t.S⟩
theorem W6(c:UInt8)(h:Fs c=true):((c.toNat:Int)==91)=false/\((c.toNat:Int)==93)=false/\((c.toNat:Int)==60)=false/\((c.toNat:Int)==62)=false/\((c.toNat:Int)==40)=false/\((c.toNat:Int)==47)=false/\MU c=false:=by
 have:=iL (fun c=>!Fs c||(!((c.toNat:Int)==91)&&!((c.toNat:Int)==93)&&!((c.toNat:Int)==60)&&!((c.toNat:Int)==62)&&!((c.toNat:Int)==40)&&!((c.toNat:Int)==47)&&!MU c)) (by kernel_rfl) c
 rw[h,Bool.not_true,Bool.false_or]at this
 simp only[Bool.and_eq_true,Bool.not_eq_true']at this
 obtain⟨⟨⟨⟨⟨⟨a,b⟩,c⟩,d⟩,e⟩,f⟩,g⟩:=this
 exact⟨a,b,c,d,e,f,g⟩
theorem JJ(k:Nat)(hk:k<=b.length):((p8 b k:Int)==(b.length:Int))=!(decide ((p8 b k:Int)<(b.length:Int))):=by
 have:=(vq (b:=b) k hk).2
 by_cases h:p8 b k=b.length
 ·rw[h];simp
 ·have h1:((p8 b k:Int)==(b.length:Int))=false:=by simp;omega
  have h2:decide ((p8 b k:Int)<(b.length:Int))=true:=by simp;omega
  rw[h1,h2];rfl
theorem zh(f:Nat){j n:Nat}{T:(List UInt8×Nat)⊕Int}(hp:Su j n T){x:List UInt8×Int×Int}(hx:Uy T x):(if(x.2.2 !=0)=true then some ((⟨0,f,f,⟨0,0,⟨[]⟩,[]⟩,⟨[]⟩⟩:aK),x.2.2)else some ((⟨1,f,x.2.1,⟨4,0,⟨x.1⟩,[]⟩,⟨[]⟩⟩:aK),(0:Int)))=some (tR (Dl f T).1,(Dl f T).2):=by
 cases T with
 |inl r=>
  have hx:x=(r.1,(r.2:Int),0):=hx
  subst hx
  exact ae (by show¬(((0:Int)!=0)=true);decide) rfl
 |inr e=>
  have hx:x.2.2=e:=hx
  have hp:e≠0:=hp
  refine al (by rw[hx];simpa using hp) ?_
  rw[hx];rfl
theorem WZ(hb:b.length<1048576)(k:Nat)(hk:k<=b.length)(c:UInt8)(hx:b[De b k]? =some c):bD b (k:Int) last=some (tR (Ln b last (De b k) c).1,(Ln b last (De b k) c).2):=by
 have hs:=HE (b:=b) k hk
 have hsp:Es c=false:=xq _ _ _ (by omega) c hx
 have hf1:∀f,f=De b k->bD b (k:Int) last=some (tR (Ln b last f c).1,(Ln b last f c).2):=fun f hf=>by
  rw[<-hf]at hx hs
  obtain⟨hl,hi⟩:=a8 hx
  have hw:=iX (n:=f) (by omega)
  have hw2:ao ((f:Int)+2)=((f+2:Nat):Int):=by rw[au (by omega) (by omega)];rfl
  unfold bD
  refine ae (by simp;omega) (ah (Uv (by omega) k hk) ?_)
  rw[<-hf]
  refine ae (by simp;omega) (af (by omega) (ah (abn (by omega) f (by omega)) ?_))
  simp only[hi,hw,hw2]
  have hru:=vq (b:=b) f (by omega)
  have hrb:=JJ (b:=b) f (by omega)
  unfold Ln
  cases hr:Fs c with
  |true=>
   obtain⟨n91,n93,n60,n62,n40,n47,nd⟩:=W6 c hr
   have hlt:=Lg hx hr
   obtain⟨p1,p2⟩:=Fi hx hlt hru.2
   rw[if_pos rfl]
   refine ae (by rw[n91];decide) (ae (by rw[n93];decide) (af (by rw[n60];simp) (ae (by rw[n60];simp) (af (by rw[n62];simp) (ae (by rw[n62];simp) (ae (by rw[n62];simp) (ae (by rw[n60,n40];decide) (ae (by rw[n47];decide) (ah (vn c) (ae (by rw[nd];decide) ?_))))))))))
   rw[hrb]
   have np:0<=(f:Int)/\(f:Int)<=(p8 b f:Int)/\(p8 b f:Int)<=(b.length:Int):=by omega
   cases hd:(decide ((p8 b f:Int)<(b.length:Int)))||last with
   |false=>
    rw[Bool.or_eq_false_iff]at hd
    rw[if_neg nF,hd.1,hd.2]
    exact al rfl rfl
   |true=>
    rw[if_pos rfl]
    refine ae (by
     intro h
     rw[Bool.and_eq_true]at h
     have h1:decide ((p8 b f:Int)<(b.length:Int))=false:=by simpa using h.1
     have h2:last=false:=by simpa using h.2
     rw[h1,h2]at hd;cases hd) ?_
    by_cases hn:Sp c=true
    ·rw[if_pos hn]
     refine al hn (af np (ah (aeh _ (by rw[p2];omega) (by rw[p1];exact fun h=>nomatch h)) ?_))
     unfold tok
     generalize Jo (part b (f:Int) (p8 b f:Int))=q
     by_cases he:(q.2 !=0)=true
     ·rw[if_pos he,if_pos he];rfl
     ·rw[if_neg he,if_neg he];rfl
    ·rw[if_neg hn]
     exact ae hn (af np rfl)
  |false=>
   rw[if_neg nF]
   by_cases h91:((c.toNat:Int)==91)=true
   ·rw[if_pos h91,if_pos h91];rfl
   rw[if_neg h91,if_neg h91]
   by_cases h93:((c.toNat:Int)==93)=true
   ·rw[if_pos h93,if_pos h93];rfl
   rw[if_neg h93,if_neg h93]
   by_cases h60:((c.toNat:Int)==60)=true
   ·rw[if_pos h60]
    have hc:(c.toNat:Int)=60:=by simpa using h60
    have n62:((c.toNat:Int)==62)=false:=by rw[hc];decide
    have n40:((c.toNat:Int)==40)=false:=by rw[hc];decide
    obtain⟨x,x1,x2⟩:=Qn (last:=last) hb (f+1) (by omega)
    have hp:=we (b:=b) (last:=last) (b.length+1) ([],-1) (f+1) (by omega)
    cases hy:b[f+1]? with
    |none=>
     have hl2:=c5 hy
     have hd1:decide (((f+1:Nat):Int)<(b.length:Int))=false:=by simp;omega
     have e:HP b last (b.length+1) ([],-1) (f+1)=.inr (nk last):=by rw[HP,hy]
     rw[e]at x2 hp
     refine af (by rw[hd1];simp) (ae (by rw[hd1];simp) (af (by rw[n62];simp) (ae (by rw[n62];simp) (ae (by rw[n62];simp) (al (by rw[h60];rfl) (ah x1 (eu (ae (by rw[n40];decide) rfl) (zh f hp x2))))))))
    |some d=>
     obtain⟨hl2,hi2⟩:=a8 hy
     have hd1:decide (((f+1:Nat):Int)<(b.length:Int))=true:=by simp;omega
     simp only[hi2]
     by_cases hd:((d.toNat:Int)==60)=true
     ·rw[if_pos hd]
      exact af (by omega) (al (by rw[h60,hd1,hd];rfl) rfl)
     ·rw[if_neg hd]
      have hdf:((d.toNat:Int)==60)=false:=by simpa using hd
      exact af (by omega) (ae (by rw[hdf];simp) (af (by rw[n62];simp) (ae (by rw[n62];simp) (ae (by rw[n62];simp) (al (by rw[h60];rfl) (ah x1 (eu (ae (by rw[n40];decide) rfl) (zh f hp x2))))))))
   rw[if_neg h60]
   have n60:((c.toNat:Int)==60)=false:=by simpa using h60
   refine af (by rw[n60];simp) (ae (by rw[n60];simp) ?_)
   by_cases h62:((c.toNat:Int)==62)=true
   ·rw[if_pos h62]
    have hc:(c.toNat:Int)=62:=by simpa using h62
    have n40:((c.toNat:Int)==40)=false:=by rw[hc];decide
    have n47:((c.toNat:Int)==47)=false:=by rw[hc];decide
    have hde:MU c=true:=by
     have:=iL (fun c=>!((c.toNat:Int)==62)||MU c) (by kernel_rfl) c
     rw[h62]at this;exact this
    cases hy:b[f+1]? with
    |none=>
     have hl2:=c5 hy
     have hd1:decide (((f+1:Nat):Int)<(b.length:Int))=false:=by simp;omega
     have hd2:(((f+1:Nat):Int)==(b.length:Int))=true:=by simp;omega
     refine af (by rw[hd1];simp) (ae (by rw[hd1];simp) ?_)
     cases last with
     |false=>exact al (by rw[h62,hd2];rfl) rfl
     |true=>exact ae (by simp) (ae (by rw[n60,n40];decide) (ae (by rw[n47];decide) (ah (vn c) (al hde rfl))))
    |some d=>
     obtain⟨hl2,hi2⟩:=a8 hy
     have hd1:decide (((f+1:Nat):Int)<(b.length:Int))=true:=by simp;omega
     have hd2:(((f+1:Nat):Int)==(b.length:Int))=false:=by simp;omega
     simp only[hi2]
     by_cases hd:((d.toNat:Int)==62)=true
     ·rw[if_pos hd]
      exact af (by omega) (al (by rw[h62,hd1,hd];rfl) rfl)
     ·rw[if_neg hd]
      have hdf:((d.toNat:Int)==62)=false:=by simpa using hd
      exact af (by omega) (ae (by rw[hdf];simp) (ae (by rw[hd2];simp) (ae (by rw[n60,n40];decide) (ae (by rw[n47];decide) (ah (vn c) (al hde rfl))))))
   rw[if_neg h62]
   have n62:((c.toNat:Int)==62)=false:=by simpa using h62
   refine af (by rw[n62];simp) (ae (by rw[n62];simp) (ae (by rw[n62];simp) ?_))
   by_cases h40:((c.toNat:Int)==40)=true
   ·rw[if_pos h40]
    obtain⟨x,x1,_⟩:=Qn (last:=last) hb (f+1) (by omega)
    obtain⟨y,y1,y2⟩:=abo (last:=last) hb (f+1) (by omega)
    have hp:=kR (b:=b) (last:=last) (b.length+1) 1 [] (f+1) (by omega)
    exact al (by rw[h40,Bool.or_true]) (ah x1 (eu (al h40 (ah y1 rfl)) (zh f hp y2)))
   rw[if_neg h40]
   have n40:((c.toNat:Int)==40)=false:=by simpa using h40
   refine ae (by rw[n60,n40];decide) ?_
   by_cases h47:((c.toNat:Int)==47)=true
   ·rw[if_pos h47,if_pos h47]
    have hr2:=vq (b:=b) (f+1) (by omega)
    have pl:=CI (b:=b) hr2.1 hr2.2
    have hrb:=JJ (b:=b) (f+1) (by omega)
    refine ah (abn (by omega) (f+1) (by omega)) ?_
    rw[hrb]
    cases hd:(decide ((p8 b (f+1):Int)<(b.length:Int)))||last with
    |false=>
     rw[Bool.or_eq_false_iff]at hd
     rw[if_neg nF,hd.1,hd.2]
     exact al rfl rfl
    |true=>
     rw[if_pos rfl]
     refine ae (by
      intro h
      rw[Bool.and_eq_true]at h
      have h1:decide ((p8 b (f+1):Int)<(b.length:Int))=false:=by simpa using h.1
      have h2:last=false:=by simpa using h.2
      rw[h1,h2]at hd;cases hd) (af (by omega) (ah (abm (by rw[pl];omega)) ?_))
     unfold tok
     generalize Me (part b ((f+1:Nat):Int) (p8 b (f+1):Int))=q
     by_cases he:(q.2 !=0)=true
     ·rw[if_pos he,if_pos he];rfl
     ·rw[if_neg he,if_neg he];rfl
   rw[if_neg h47,if_neg h47]
   have hde:MU c=true:=by
    unfold Fs at hr
    rw[hsp]at hr
    simpa using hr
   exact ah (vn c) (al hde rfl)
 exact hf1 _ rfl
theorem sn(hb:b.length<1048576)(k:Nat)(hk:k<=b.length):bD b (k:Int) last=some (tR (gU b last k).1,(gU b last k).2):=by
 cases hx:b[De b k]? with
 |none=>
  unfold bD gU
  rw[hx]
  have hs:=HE (b:=b) k hk
  have:=c5 hx
  refine ae (by simp;omega) (ah (Uv (by omega) k hk) (al (by simp;omega) ?_))
  cases last<;>rfl
 |some c=>
  have e:gU b last k=Ln b last (De b k) c:=by unfold gU;rw[hx]
  rw[e]
  exact WZ hb k hk c hx
end
structure zt(b:List UInt8)(k:Nat)(t:ar):Prop where
 to:∃j:Nat,t.To=(j:Int)/\j<=b.length/\k<=j/\(t.Kind≠0->k<j)
 kd:t.Kind=0\/t.Kind=1\/t.Kind=2\/t.Kind=3\/t.Kind=4\/t.Kind=5\/t.Kind=6
 nm:t.Kind=1->t.V.Kind=5->t.V=⟨5,0,t.V.S,[]⟩
theorem Wh(w:List UInt8)(h:(Me w).1.Kind=5):(Me w).1=⟨5,0,(Me w).1.S,[]⟩:=by
 unfold Me at h⊢
 cases hx:Nk w (w.length+1) [] 0 with
 |inr e=>rw[hx]at h;cases h
 |inl o=>
  rw[hx]at h
  show(PX o).1=⟨5,0,(PX o).1.S,[]⟩
  have h:(PX o).1.Kind=5:=h
  unfold PX at h⊢
  split at h
  ·cases h
  ·rename_i hc;rw[if_neg hc]
theorem KW(sg:Int)(wh:List UInt8)(ro:Option (List UInt8)):(P3 sg wh ro).1.Kind≠5:=by
 unfold P3
 split
 ·exact fun h=>by cases h
 ·split
  ·exact fun h=>by cases h
  ·cases ro with
   |none=>exact fun h=>by cases h
   |some r=>
    show(if _ then _ else _:aa×Int).1.Kind≠5
    split<;>exact fun h=>by cases h
theorem Ws(s:List UInt8):(Jo s).1.Kind≠5:=by
 unfold Jo
 cases s with
 |nil=>exact KW _ _ _
 |cons c r=>
  show(if _ then _ else _:aa×Int).1.Kind≠5
  split
  ·exact KW _ _ _
  ·split<;>exact KW _ _ _
theorem Jp{b:List UInt8}{last:Bool}{k:Nat}(hk:k<=b.length)(h:(gU b last k).2=0):zt b k (gU b last k).1:=by
 have hs:=HE (b:=b) k hk
 unfold gU at h⊢
 cases hx:b[De b k]? with
 |none=>
  rw[hx]at h
  exact⟨⟨De b k,rfl,hs.2,hs.1,fun h=>absurd rfl h⟩,.inl rfl,fun h=>by cases h⟩
 |some c=>
  rw[hx]at h
  have h:(Ln b last (De b k) c).2=0:=h
  show zt b k (Ln b last (De b k) c).1
  generalize hf:De b k=f at*
  have hfl:f<b.length:=(List.getElem?_eq_some_iff.1 hx).1
  have str:∀T:(List UInt8×Nat)⊕Int,Su (f+1) b.length T->(Dl f T).2=0->zt b k (Dl f T).1:=fun T hT h=>by
   cases T with
   |inl r=>exact⟨⟨r.2,rfl,hT.2,by have:=hT.1;omega,fun _=>by have:=hT.1;omega⟩,.inr (.inl rfl),fun _ h=>by cases h⟩
   |inr e=>exact absurd h hT
  have tk:∀(e:Nat)(q:aa×Int),f<e->e<=b.length->(q.2=0->q.1.Kind=5->q.1=⟨5,0,q.1.S,[]⟩)->(tok f e q).2=0->zt b k (tok f e q).1:=fun e q h1 h2 hq h=>by
   unfold tok at h⊢
   by_cases hc:(q.2 !=0)=true
   ·rw[if_pos hc]at h
    have:q.2=0:=h
    rw[this]at hc;cases hc
   ·rw[if_neg hc]
    have hc:q.2=0:=by simpa using hc
    exact⟨⟨e,rfl,h2,by omega,fun _=>by omega⟩,.inr (.inl rfl),fun _ h=>hq hc h⟩
  have one:∀(kd:Int)(n:Nat),f<n->n<=b.length->(kd=2\/kd=3\/kd=4\/kd=5)->∀t:ar,t=⟨kd,f,(n:Int),GU,⟨[]⟩⟩->zt b k t:=fun kd n h1 h2 hkd t ht=>by
   subst ht
   refine⟨⟨n,rfl,h2,by omega,fun _=>by omega⟩,?_,fun h=>?_⟩
   ·rcases hkd with rfl|rfl|rfl|rfl<;>simp
   ·have h:kd=1:=h
    omega
  unfold Ln at h⊢
  split at h
  ·rename_i hc
   rw[if_pos hc]
   have hr:=Lg hx hc
   have hr2:=(vq (b:=b) f (by omega)).2
   split at h
   ·rename_i hl
    rw[if_pos hl]
    split at h
    ·rename_i hn
     rw[if_pos hn]
     exact tk _ _ hr hr2 (fun _ h5=>absurd h5 (Ws _)) h
    ·rename_i hn
     rw[if_neg hn]
     exact⟨⟨p8 b f,rfl,hr2,by omega,fun _=>by omega⟩,by simp,fun h=>by cases h⟩
   ·cases h
  ·rename_i hc
   rw[if_neg hc]
   split at h
   ·rename_i h1;rw[if_pos h1]
    exact one 2 (f+1) (by omega) (by omega) (by simp) _ rfl
   ·rename_i h1;rw[if_neg h1]
    split at h
    ·rename_i h2;rw[if_pos h2]
     exact one 3 (f+1) (by omega) (by omega) (by simp) _ rfl
    ·rename_i h2;rw[if_neg h2]
     split at h
     ·rename_i h3;rw[if_pos h3]
      cases hd:b[f+1]? with
      |none=>
       rw[hd]at h
       have h:nk last=0:=h
       exact absurd h (by cases last<;>decide)
      |some d=>
       have hd1:f+1<b.length:=(List.getElem?_eq_some_iff.1 hd).1
       rw[hd]at h
       simp only at h⊢
       split at h
       ·rename_i h4;rw[if_pos h4]
        exact one 4 (f+2) (by omega) (by omega) (by simp) _ rfl
       ·rename_i h4;rw[if_neg h4]
        exact str _ (we _ _ _ (by omega)) h
     ·rename_i h3;rw[if_neg h3]
      split at h
      ·rename_i h4;rw[if_pos h4]
       cases hd:b[f+1]? with
       |none=>
        rw[hd]at h
        have h:(if last then(11:Int)else 6)=0:=h
        exact absurd h (by cases last<;>decide)
       |some d=>
        have hd1:f+1<b.length:=(List.getElem?_eq_some_iff.1 hd).1
        rw[hd]at h
        simp only at h⊢
        split at h
        ·rename_i h5;rw[if_pos h5]
         exact one 5 (f+2) (by omega) (by omega) (by simp) _ rfl
        ·cases h
      ·rename_i h4;rw[if_neg h4]
       split at h
       ·rename_i h5;rw[if_pos h5]
        exact str _ (kR _ _ _ _ (by omega)) h
       ·rename_i h5;rw[if_neg h5]
        split at h
        ·rename_i h6;rw[if_pos h6]
         have hr2:=vq (b:=b) (f+1) (by omega)
         split at h
         ·rename_i hl
          rw[if_pos hl]
          exact tk _ _ (by omega) hr2.2 (fun _ h5=>Wh _ h5) h
         ·cases h
        ·cases h
theorem P4(sg:Int)(wh:List UInt8)(ro:Option (List UInt8)):(P3 sg wh ro).1.L=[]:=by
 unfold P3
 split
 ·rfl
 ·split
  ·rfl
  ·cases ro with
   |none=>rfl
   |some r=>
    show(if _ then _ else _:aa×Int).1.L=[]
    split<;>rfl
theorem aaO(s:List UInt8):(Jo s).1.L=[]:=by
 unfold Jo
 cases s with
 |nil=>exact P4 _ _ _
 |cons c r=>
  show(if _ then _ else _:aa×Int).1.L=[]
  split
  ·exact P4 _ _ _
  ·split<;>exact P4 _ _ _
theorem aaD(w:List UInt8):(Me w).1.L=[]:=by
 unfold Me
 cases Nk w (w.length+1) [] 0 with
 |inr e=>rfl
 |inl o=>
  show(PX o).1.L=[]
  unfold PX
  split<;>rfl
theorem UI{f e:Nat}{q:aa×Int}(h:q.1.L=[]):(tok f e q).1.V.L=[]:=by
 unfold tok
 split
 ·rfl
 ·exact h
theorem abA{f:Nat}{T:(List UInt8×Nat)⊕Int}:(Dl f T).1.V.L=[]:=by cases T<;>rfl
theorem abI(b:List UInt8)(last:Bool)(f:Nat)(c:UInt8):(Ln b last f c).1.V.L=[]:=by
 unfold Ln
 repeat' split
 all_goals first|rfl|exact UI (aaO _)|exact UI (aaD _)|exact abA
theorem ad3(b:List UInt8)(last:Bool)(k:Nat):(gU b last k).1.V.L=[]:=by
 unfold gU
 split
 ·rfl
 ·exact abI _ _ _ _
section
variable(h:Nat->Int)
variable{h}
end
end Go.AB
end
