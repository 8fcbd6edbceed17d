/- A part. -/
import Derived.Test.YtgecakgfnjkkbaaGreatTt20
import Derived.Shelf.SlSortCmp.WholeK
import Derived.Ground.SlsfProg
set_option linter.defProp false
set_option linter.unusedSimpArgs false
set_option linter.unusedVariables false
section
set_option maxRecDepth 16000
namespace Go.AB
open Go
open Go.Proofs.Tryz (prog)
attribute[-go_sem] Nat.add_zero mO cF cj cS bK ch
section
variable{s0 s:ae}{b:List UInt8}{most:Int}{B BR:Nat}{z:ZS}{Q:List AV->ae->Prop}
def Rq(hS:qy s0 s b most B BR z)(hb:b.length<72057594037927936)(hz:ZI b most z)
 (hq:∀s' p q,qy s0 s' b most B BR (nj (ag b) z).2.2->((nj (ag b) z).2.2.e≠0->ptr p/\ptr q)->((nj (ag b) z).2.2.e=0->∃t d:HT,p=.ref t.B 0/\q=.ref d.B 0/\il s' t/\il s' d/\t.lens=(nj (ag b) z).1/\d.lens=(nj (ag b) z).2.1)->Q [p,q] s'):FN prog 242 [.ref B 0] s Q:=by
 have cg:room=140737488355328:=rfl
 refine FS 94 [⟨2,true,none⟩,⟨3,true,none⟩] 0x30fbb04e8d930906a6ce9186a6012735d085f36960859c30a8373a66099aa6560c33cab1c98588c303bc7ca782a06329a78760347c18a84ae5a195099e5c948c3e6c17c63d2f17a37908b9919ddf89d94ac2387147ba5b2635a9119d17c4124b2052e6f8ee34150c69562b04a95c8a1007158a225b1d1e18bc377cee912c5a42f84518be96fa68fd9cd696b182c4a88e803d8d0bb961bfa6853e0995f74072a18e1b7844e6da0145ad4a4e81d55da8aa8687716a48fde0b61f3cee28df10b2976dec9e59dda016816d9024c1947ea8ef036147f89e647923d8e928b4334be48e2a9c40408781d63f1a6342d86cb9cad14fb7515d5dd6acfc047b0d7ddffbb23aff1638e181752129b222e03476fc750eb6dfb7a1d391fee258fa099859172c3d5101b92ad52f3de596f7c81914831a02cfd98a78ce6723f439b30a577721efcd8edf40d8f5ed5269e9fbca9135115c3cd562594f181ca982d79efb4f7b90833c13d7d88437a2823687f0c9f543d62bdd1e0cc3eadd7912552007bee6b11348aa2ca1bddfac23a9ad56d1e6d16855f74b13ea65388478b ?_
 refine Xe5 ?_
 have p5:(2:Int)^5=32:=By
 have p4:(2:Int)^4=16:=By
 have h1:=eu (b:=b) (n:=5) hz.1
 have h2:=eu (b:=b) (n:=5) h1.1
 have h3:=eu (b:=b) (n:=4) h2.1
 have hz1:ZI b most (aE (ag b) 5 z).2:=⟨h1.1,by rw[h1.2.2.2.2.1];exact hz.2⟩
 have hz2:ZI b most (aE (ag b) 5 (aE (ag b) 5 z).2).2:=⟨h2.1,by rw[h2.2.2.2.2.1];exact hz1.2⟩
 have hH:kQ (ag b) z=((aE (ag b) 5 z).1+257,(aE (ag b) 5 (aE (ag b) 5 z).2).1+1,(aE (ag b) 4 (aE (ag b) 5 (aE (ag b) 5 z).2).2).1+4,if(aE (ag b) 5 z).1+257>286\/(aE (ag b) 5 (aE (ag b) 5 z).2).1+1>30 then(aE (ag b) 4 (aE (ag b) 5 (aE (ag b) 5 z).2).2).2.fail 11 else(aE (ag b) 4 (aE (ag b) 5 (aE (ag b) 5 z).2).2).2):=rfl
 have hHl:=OP (b:=b) hz.1
 refine zY hS hb (n:=5) By hz fun s1 hS1 q1 q2=>?_
 refine Xe5 ?_
 refine zY hS1 hb (n:=5) By hz1 fun s2 hS2 q3 q4=>?_
 refine Xe5 ?_
 refine zY hS2 hb (n:=4) By hz2 fun s3 hS3 q5 q6=>?_
 clear hS hS1 hS2 q1 q2 q3 q4 q5 q6
 rw[p5]at h1 h2
 rw[p4]at h3
 generalize aE (ag b) 4 (aE (ag b) 5 (aE (ag b) 5 z).2).2=k1 at*
 generalize aE (ag b) 5 (aE (ag b) 5 z).2=m1 at*
 generalize aE (ag b) 5 z=n1 at*
 have e1:aC (aC (n1.1+256)+1)=n1.1+257:=by rw[an (n:=n1.1+256) AT AT,an AT AT];omega
 have e2:aC (m1.1+1)=m1.1+1:=an AT AT
 have e3:aC (k1.1+4)=k1.1+4:=an AT AT
 refine Xh1 e1 e2 e3 ?_
 obtain⟨N,M,K,Z4,hN⟩:∃N M K Z4,kQ (ag b) z=(N,M,K,Z4):=⟨_,_,_,_,rfl⟩
 rw[hN]at hH hHl
 injection hH with a1 hH
 injection hH with a2 hH
 injection hH with a3 a4
 rw[<-a1,<-a2]at*
 rw[<-a3]at*
 clear a1 a2 a3 e1 e2 e3 h1 h2 h3 hz1 hz2
 simp only at hHl
 refine(?fst:(∀s4,qy s0 s4 b most B BR Z4->(?G:ae->Prop) s4)->_) ?rest
 case fst=>
  intro rest
  refine⟨fun hc=>?_,fun hc=>?_⟩
  ·refine x6 hS3 11 fun s4 hS4 _ _=>?_
   rw[if_pos Xr]at a4
   rw[<-a4]at hS4
   refine Xg8 ?_
   exact rest s4 hS4
  ·rw[if_neg Xr]at a4
   rw[<-a4]at hS3
   exact rest s3 hS3
 clear hS3 a4
 intro s4 hS4
 refine⟨AT,AT,AT,fun bo hbo=>?_⟩
 refine FE.app (zE (r:=sn) rfl) ?_
 have ho0:s0 bo=none:=by
  cases h:s0 bo with
  |none=>rfl
  |some o=>rw[hS4.sub _ _ h]at hbo;cases hbo
 have hoB:bo≠B:=fun e=>by subst e;rw[hS4.hB]at hbo;cases hbo
 have hoR:bo≠BR:=fun e=>by subst e;rw[hS4.hR]at hbo;cases hbo
 have hz4:ZI b most Z4:=⟨hHl.1,by rw[hHl.2.2.1];exact hz.2⟩
 have hK:(sn.length:Int)=19:=rfl
 have hL:part sn 0 K=sn.take K.toNat:=by
  unfold part
  rw[Int.sub_zero];rfl
 have hLb:∀x∈sn.take K.toNat,0<=x/\x<19:=fun x hx=>by
  have:∀x∈sn,0<=x/\x<19:=By
  exact this x (List.mem_of_mem_take hx)
 have hLl:(sn.take K.toNat).length<=19:=by
  rw[List.length_take]
  have:sn.length=19:=rfl
  omega
 refine Xg8 ?_
 refine⟨⟨AT,AT,AT⟩,?_⟩
 rw[hL]
 have hdL:pw (ag b) z=zR (ag b) (Lu (ag b) (sn.take K.toNat) (List.replicate 19 0) Z4).1 (N+M).toNat ((N+M).toNat+1) [] (lF (Lu (ag b) (sn.take K.toNat) (List.replicate 19 0) Z4).1 (Lu (ag b) (sn.take K.toNat) (List.replicate 19 0) Z4).2):=by
  unfold pw
  rw[hN]
 have hOl:=ND (b:=b) (sn.take K.toNat) (List.replicate 19 0) Z4 hz4.1
 generalize hO:Lu (ag b) (sn.take K.toNat) (List.replicate 19 0) Z4=O at hdL hOl
 generalize sn.take K.toNat=L at hLb hLl hO
 clear hL hK
 refine iY L.length (fun k τ=>∃(S:ae)(of:List Int)(Zk:ZS),qy s0 S b most B BR Zk/\ZI b most Zk/\S bo=some (.cells (flat of))/\of.length=19/\Lu (ag b) (L.drop k) of Zk=O/\τ=⟨[(0,.ref B 0),(4,.int .i64 N),(5,.int .i64 M),(7,.arr bo 0 19 19),(41,.sl false 1 L.length (flat L)),(42,.int .i64 L.length),(43,.int .i64 k)],[],S⟩) AT ?_ (fun k hk J τ hτ hJ=>?_) (fun J τ hτ=>?_)
 ·exact⟨_,List.replicate 19 0,Z4,hS4.off ho0 hoB hoR (fun y hy=>ai hy),hz4,bp,rfl,hO,rfl⟩
 ·obtain⟨S,of,Zk,hS,hzk,hSo,hof,hOk,rfl⟩:=hτ
  have hlt:decide ((k:Int)<(L.length:Int))=true:=C3
  have hw:aC ((k:Int)+1)=((k+1:Nat):Int):=E_
  have hx:=hLb (ix L (k:Int)) Xd7
  rw[List.drop_eq_getElem_cons hk,Lu,<-gr hk]at hOk
  refine Xe3 hlt ?_
  generalize ix L (k:Int)=x at hx hOk
  refine⟨⟨AT,AT⟩,?_⟩
  have hn:=eu (b:=b) (n:=3) hzk.1
  refine zY hS hb (n:=3) By hzk fun S2 hS2 _ Na=>?_
  have ajt:S2 bo=some (.cells (flat of)):=(Na bo hoB hoR).trans hSo
  have CW:setAt (flat of) (x.toNat*1) [.int .i64 (aE (ag b) 3 Zk).1]=flat (JC of x (aE (ag b) 3 Zk).1):=KD of x (aE (ag b) 3 Zk).1 1 rfl
  have dE:=(Ha of (n:=1) rfl (j:=x) hx.1 AT).1
  simp -implicitDefEqProofs only[go_sem,seval,ajt,CW,hw,bL]
  refine⟨⟨AT,AT⟩,dE,?_⟩
  exact hJ _ ⟨_,JC of x (aE (ag b) 3 Zk).1,(aE (ag b) 3 Zk).2,hS2.off ho0 hoB hoR (fun y hy=>ai hy),⟨hn.1,by rw[hn.2.2.2.2.1];exact hzk.2⟩,bp,by rw[Hl of hx.1 AT];exact hof,hOk,rfl⟩
 ·obtain⟨S,of,Zk,hS,hzk,hSo,hof,hOk,rfl⟩:=hτ
  have hlt:decide ((L.length:Int)<(L.length:Int))=false:=BY
  rw[List.drop_eq_nil_of_le (Nat.le_refl _),Lu]at hOk
  subst hOk
  refine Xe3 hlt ?_
  refine CP (l:=of) hSo hof By ?_
  have hS5:qy s0 (S.del bo) b most B BR Zk:=hS.off ho0 hoB hoR (fun y hy=>by unfold ae.del;rw[if_neg hy])
  refine Xe5 ?_
  simp only at hdL hOl
  have hc:=xW of Zk
  have hz6:ZI b most (lF of Zk):=⟨by rw[hc.1];exact hzk.1,by rw[hc.2.1];exact hzk.2⟩
  have hnm:aC (N+M)=(((N+M).toNat:Nat):Int):=E_
  refine rA hS5 hof (fun S6 hS6 he ht=>?_) (fun S6 t hS6 he ht hx hl=>?_)
  ·refine Xe5 ?_
   refine Xv hS6 he _ ?_
   have hB:=hS6.hB
   rw[TZ he]at hdL
   have hdT:nj (ag b) z=([],[],lF of Zk):=by
    unfold nj
    rw[hdL]
    exact if_pos he
   rw[hdT]at hq
   have hcc:((lF of Zk).e !=0)=true:=G_
   refine Xe9 hB hcc ?_
   exact hq S6 _ _ hS6 (fun _=>⟨.inl rfl,.inl rfl⟩) (fun e=>absurd e he)
  ·refine Xe3 hnm ?_
   refine Xw hS6 hb hz6 hx AT fun S7 o hS7 ho=>?_
   rw[hl]at ho hS7
   rw[<-hdL]at ho hS7
   have hB:=hS7.hB
   have hdl:=OQ (b:=b) hz.1
   rw[hN]at hdl
   generalize hD:pw (ag b) z=D at hdL hdl ho hS7 hB
   refine Xg4 hB ?_
   refine⟨fun he=>?_,fun he=>?_⟩
   ·have he:D.2.e≠0:=G_
    have hdT:nj (ag b) z=([],[],D.2):=by
     unfold nj
     rw[hD]
     exact if_pos he
    rw[hdT]at hq
    exact hq S7 _ _ hS7 (fun _=>⟨.inl rfl,.inl rfl⟩) (fun e=>absurd e he)
   ·have he:D.2.e=0:=G_
    have ho:=ho he
    obtain⟨h1,h2⟩:=hdl.2.2.2 he
    simp only at h2
    have hdT:nj (ag b) z=(D.1.take N.toNat,D.1.drop N.toNat,lF (D.1.drop N.toNat) (lF (D.1.take N.toNat) (if D.1.getD 256 0=0 then D.2.fail 11 else D.2))):=by
     unfold nj
     rw[hD,hN]
     exact if_neg w_
    rw[hdT]at hq
    subst ho
    have hix:ix D.1 256=D.1.getD 256 0:=by
     have h3:256<D.1.length:=AT
     have:=gr h3
     rw[List.getD_eq_getElem?_getD,List.getElem?_eq_getElem h3]
     exact this
    have hp1:part D.1 0 N=D.1.take N.toNat:=by
     unfold part
     rw[Int.sub_zero];rfl
    have hp2:part D.1 N (D.1.length:Int)=D.1.drop N.toNat:=by
     unfold part
     rw[List.take_of_length_le P_]
    rw[hix]
    refine⟨⟨AT,AT⟩,?_⟩
    refine⟨fun h=>x6 hS7 11 fun S8 hS8 _ _=>?_,fun h=>?_⟩
    all_goals first
     |have hS8:qy s0 S7 b most B BR (if D.1.getD 256 0=0 then D.2.fail 11 else D.2):=by rw[if_neg KT];exact hS7
     |simp -implicitDefEqProofs only[go_sem,Nat.reduceBEq,Nat.reduceAdd,Nat.reduceMul,Nat.reduceLeDiff,Nat.reduceEqDiff,Nat.reduceBNe,UInt8.reduceToNat,UInt32.reduceToNat,bL]
      replace hS8:qy s0 S8 b most B BR (if D.1.getD 256 0=0 then D.2.fail 11 else D.2):=by rw[if_pos KT];exact hS8
    all_goals
     refine⟨⟨AT,AT,AT⟩,⟨AT,AT,AT⟩,?_⟩
     rw[hp1,hp2]
     generalize(if D.1.getD 256 0=0 then D.2.fail 11 else D.2)=Z7 at*
     have c2:=xW (D.1.drop N.toNat) (lF (D.1.take N.toNat) Z7)
     refine rA hS8 rfl (fun S9 hS9 he9 ht9=>?_) (fun S9 t1 hS9 he9 ht9 hx9 hl9=>?_)
     ·refine Xe5 ?_
      refine rA hS9 rfl (fun S10 Qw M6 _=>?_) (fun S10 t2 Qw M6 _ _ _=>absurd (c2.2.2 M6).1 he9)
      refine Xe5 ?_
      exact hq S10 _ _ Qw (fun _=>⟨.inl rfl,.inl rfl⟩) (fun e=>absurd e M6)
     ·refine Xe5 ?_
      refine rA hS9 rfl (fun S10 Qw M6 _=>?_) (fun S10 t2 Qw M6 ajY aj1 ajF=>?_)
      ·refine Xe5 ?_
       exact hq S10 _ _ Qw (fun _=>⟨.inr ⟨_,rfl⟩,.inl rfl⟩) (fun e=>absurd e M6)
      ·refine Xe5 ?_
       exact hq S10 _ _ Qw (fun e=>absurd M6 e) (fun _=>⟨t1,t2,rfl,rfl,ajY t1 hx9,aj1,hl9,ajF⟩)
def RU(hS:qy s0 s b most B BR z)(hb:b.length<72057594037927936)(hM:most<=16777216)(hz:ZI b most z)(hq:∀s',qy s0 s' b most B BR (zk b most z).2->Q [.bool (zk b most z).1] s'):FN prog 207 [.ref B 0] s Q:=by
 refine FS 74 [⟨2,true,none⟩] 0x582e9f67a1f2d437cd4454f73ae55cfe5337c517d6109d111a73d4c6792ecb19ffee806ff79bac914e7d3850da687b3983931763dbe274e362262cf961fdff50b2a7fb062cf24e3a5d957d314dda076051e0822f6719ba06ac958776869e9e140b8a783888234591e99ae93a069ce7ce03897f8e6406bc8ff2bb58e8c9844b0d1b549bdb848dedc9544da5f484799ea090bb9c9795d3ff93c90554b46b60b13bc88ad1ebddd97d936e85ceb5f69f803f9beb909f2ac38594395f31ce0cc1c5f0cb4a4328118ac0e2b0c5cb527081146793e47e7f5b7b1e27662c06f66bdf50863679debd691cd4001fa351bedce7da4dafa12bb41e42ad0210c37f506c178824473a ?_
 refine Xe5 ?_
 have p1:(2:Int)^1=2:=By
 have p2:(2:Int)^2=4:=By
 have h1:=eu (b:=b) (n:=1) hz.1
 have h2:=eu (b:=b) (n:=2) h1.1
 have hz1:ZI b most (aE (ag b) 1 z).2:=⟨h1.1,by rw[h1.2.2.2.2.1];exact hz.2⟩
 have hz2:ZI b most (aE (ag b) 2 (aE (ag b) 1 z).2).2:=⟨h2.1,by rw[h2.2.2.2.2.1];exact hz1.2⟩
 have hE:∀Zf,(if(aE (ag b) 2 (aE (ag b) 1 z).2).2.e≠0 then(aE (ag b) 2 (aE (ag b) 1 z).2).2 else if(aE (ag b) 2 (aE (ag b) 1 z).2).1=0 then D6 (ag b) most (aE (ag b) 2 (aE (ag b) 1 z).2).2 else if(aE (ag b) 2 (aE (ag b) 1 z).2).1=1 then vy (ag b) most nn nk (8*b.length+2) (aE (ag b) 2 (aE (ag b) 1 z).2).2 else if(aE (ag b) 2 (aE (ag b) 1 z).2).1=2 then Kp b most (aE (ag b) 2 (aE (ag b) 1 z).2).2 else(aE (ag b) 2 (aE (ag b) 1 z).2).2.fail 11)=Zf->zk b most z=(decide ((aE (ag b) 1 z).1=1)||decide (Zf.e≠0),Zf):=by rintro _ rfl;rfl
 refine zY hS hb (n:=1) By hz fun s1 hS1 _ _=>?_
 refine Xe5 ?_
 refine zY hS1 hb (n:=2) By hz1 fun s2 hS2 _ _=>?_
 clear hS hS1 h1 hz1
 generalize aE (ag b) 1 z=n1 at*
 generalize aE (ag b) 2 n1.2=k at*
 have hB2:=hS2.hB
 refine Xe3 hB2 ?_
 have hq2:∀Zf,(if k.2.e≠0 then k.2 else if k.1=0 then D6 (ag b) most k.2 else if k.1=1 then vy (ag b) most nn nk (8*b.length+2) k.2 else if k.1=2 then Kp b most k.2 else k.2.fail 11)=Zf->∀s',qy s0 s' b most B BR Zf->Q [.bool (n1.1==1||Zf.e !=0)] s':=fun Zf h s' hs=>by
  have e1:(Zf.e !=0)=decide (Zf.e≠0):=by rw[Bool.eq_iff_iff];simp
  have e2:(n1.1==1)=decide (n1.1=1):=rfl
  rw[hE Zf h]at hq
  rw[e1,e2]
  exact hq s' hs
 clear hE hq
 refine⟨fun he=>?_,fun he=>⟨fun h0=>?_,fun h0=>⟨fun h1=>?_,fun h1=>⟨fun h2=>?_,fun h2=>?_⟩⟩⟩⟩
 ·exact hq2 _ (if_pos G_) _ hS2
 ·have he:¬k.2.e≠0:=G_
  refine Rm hS2 hb hM hz2 fun S hS=>?_
  have hB:=hS.hB
  refine Xe3 hB ?_
  exact hq2 _ (by rw[if_neg he,if_pos M_]) _ hS
 ·have he:¬k.2.e≠0:=G_
  have h3:=abc
  refine FE.app abb ?_
  refine Xe5 ?_
  have he0:k.2.e=0:=G_
  have kL:lF nn k.2=k.2:=Xd9
  have kD:lF nk k.2=k.2:=Xd9
  refine rA hS2 tF (fun S _ he2 _=>absurd he0 (by rw[kL]at he2;exact he2)) (fun S t hS _ _ hx hl=>?_)
  rw[kL]at hS
  refine Xe5 ?_
  refine rA hS (show nk.length=30 from rfl) (fun S _ he2 _=>absurd he0 (by rw[kD]at he2;exact he2)) (fun S4 d hS4 _ hx2 hd hld=>?_)
  rw[kD]at hS4
  refine Xe5 ?_
  refine Kg hS4 hb hM hz2 (hx2 t hx) hd fun S5 hS5=>?_
  have hB:=hS5.hB
  refine Xe3 hB ?_
  refine hq2 _ ?_ _ hS5
  rw[if_neg he,if_neg M_,if_pos S_,hl,hld]
 ·have he:¬k.2.e≠0:=G_
  have oL:∀S,qy s0 S b most B BR (Kp b most k.2)->Q [.bool (n1.1==1||(Kp b most k.2).e !=0)] S:=fun S h=>hq2 _ (by rw[if_neg he,if_neg M_,if_neg S_,if_pos U_]) _ h
  refine Rq hS2 hb hz2 fun S p q hS hp ht=>?_
  have hZ:=(OR hz2).1
  have e0:Kp b most k.2=vy (ag b) most (nj (ag b) k.2).1 (nj (ag b) k.2).2.1 (8*b.length+2) (nj (ag b) k.2).2.2:=rfl
  rw[e0]at oL
  clear e0 hq2
  generalize nj (ag b) k.2=T at hZ oL hS hp ht
  obtain⟨T1,T2,T3⟩:=T
  dsimp only at hZ oL hS hp ht
  by_cases hd:T3.e=0
  ·obtain⟨t,d,rfl,rfl,h3,h4,h5,h6⟩:=ht hd
   subst h5 h6
   refine Xe5 ?_
   refine Kg hS hb hM hZ h3 h4 fun S5 hS5=>?_
   have hB:=hS5.hB
   refine Xe3 hB ?_
   exact oL _ hS5
  ·rw[aaZ hd]at oL
   have hB:=hS.hB
   obtain⟨hp1,hp2⟩:=hp hd
   have hp3:=hp1
   have hp4:=hp2
   rcases hp1 with rfl|⟨x,rfl⟩<;>rcases hp2 with rfl|⟨y,rfl⟩
   all_goals
    refine Xe5 ?_
    refine Wo hS hd hp3 hp4 ?_
    refine Xe3 hB ?_
    exact oL _ hS
 ·have he:¬k.2.e≠0:=G_
  refine x6 hS2 11 fun S hS _ _=>?_
  have hB:=hS.hB
  refine Xe3 hB ?_
  exact hq2 _ (by rw[if_neg he,if_neg M_,if_neg S_,if_neg U_]) _ hS
end
def muI(b:List UInt8)(BR:Nat)(τ:St):Nat:=match τ.s BR with|some (.cells (.int .i64 n::_))=>(8*b.length -n).toNat|_=>0
def abE{b:List UInt8}{most:Int}{s:ae}{ow:Bool}{Q:List AV->ae->Prop}(hb:b.length<140737488355328)(hm1:-9223372036854775808<=most)(hm2:most<=9223372036854775807)(hq:∀s' w,Sub s s'->Q [.sl w 1 (sa b most).1.length (flat (sa b most).1),.int .i64 (sa b most).2.1,.int .i64 (sa b most).2.2] s'):FN prog 172 [.sl ow 1 b.length (flat b),.int .i64 most] s Q:=by
 have cg:room=140737488355328:=rfl
 refine FS 46 [⟨4,true,none⟩,⟨5,true,none⟩,⟨6,true,none⟩] 0xb74af5e77c9cf87ab6c44c3623030d381037e6b7c6bee03bc506c8b6b7cde03592364be1071cb0e56592d8d752af4c58c8875fa57d4049b4a8d40142f49f7fbb4f2c7dac504a6d19143b7695bf559e1a56184870bdf6a0d768ea73c767afbeb9ab34c4389a1203ee2991c65fb8b9d1209f2f70ab1d354b544a8705fc35e234315b26ad23f5b2e34c60bfd1e92f9b09cdaed6e44df2da5fba1d8658687d04862d7af4a79d8cac5e60b005b200798d0f2e49c ?_
 refine Xe5 ?_
 refine⟨fun hc=>?_,fun hc=>?_⟩
 ·have e:sa b most=([],0,2):=if_pos J_
  rw[e]at hq
  exact hq s _ fun _ _ h=>h
 ·have hc:¬(most<0\/most>16777216):=J_
  refine Ye AT fun BR hBR=>?_
  refine Xe5 ?_
  intro B hB
  have hne:B≠BR:=fun e=>by subst e;rw[bp]at hB;cases hB
  have hB0:s B=none:=by rw[ai hne]at hB;exact hB
  have hS:qy s ((s.set BR (.cells [.int .i64 0,.bool false,.bool true,.sl false 1 b.length (flat b)])).set B (.cells [.ref BR 0,.int .i64 0,.sl true 1 0 [],.int .i64 most])) b most B BR ⟨0,0,[]⟩:=by
   refine⟨hB0,hBR,hne,fun x o hx=>?_,bp,(ai hne.symm).trans bp⟩
   have h1:x≠B:=fun e=>by subst e;rw[hB0]at hx;cases hx
   have h2:x≠BR:=fun e=>by subst e;rw[hBR]at hx;cases hx
   rw[ai h1,ai h2];exact hx
  have hZ0:ZI b most ⟨0,0,[]⟩:=⟨Nat.zero_le _,C3⟩
  refine⟨fun τ=>∃S Z f,qy s S b most B BR Z/\ZI b most Z/\8*b.length+2<=f+Z.at_/\zD b most f Z=zD b most (8*b.length+2) ⟨0,0,[]⟩/\τ=⟨[(7,.ref B 0)],[],S⟩,muI b BR,⟨_,_,_,hS,hZ0,BY,rfl,rfl⟩,?_⟩
  clear hS hZ0 hB hBR hB0
  rintro τ ⟨S,Z,f,hS,hZ,hf,hI,rfl⟩
  obtain⟨f,rfl⟩:∃g,f=g+1:=⟨f -1,by have:=hZ.1;omega⟩
  rw[zD]at hI
  have hk:=Ox hZ
  have hV:sa b most=if(zD b most (8*b.length+2) ⟨0,0,[]⟩).e≠0 then([],0,(zD b most (8*b.length+2) ⟨0,0,[]⟩).e)else((zD b most (8*b.length+2) ⟨0,0,[]⟩).out,((((zD b most (8*b.length+2) ⟨0,0,[]⟩).at_+7)/8:Nat):Int),0):=if_neg hc
  have hmu:∀S1 Z1 e,qy s S1 b most B BR Z1->muI b BR ⟨e,[],S1⟩=8*b.length -Z1.at_:=fun S1 Z1 e h=>by
   unfold muI
   dsimp only
   rw[h.hR]
   show((8*b.length:Nat) -(Z1.at_:Int):Int).toNat=_
   omega
  have m0:=hmu S Z [(7,.ref B 0)] hS
  refine Xe5 ?_
  refine RU hS AT AT hZ fun S2 hS2=>?_
  refine Xe5 ?_
  generalize hL:zD b most (8*b.length+2) ⟨0,0,[]⟩=L at*
  generalize zk b most Z=W at*
  obtain⟨w,Z2⟩:=W
  dsimp only at hI hk hS2
  cases w with
  |false=>
   have h3:=hk.2.2 rfl
   rw[if_neg Bool.false_ne_true]at hI
   have m1:=hmu S2 Z2 [(7,.ref B 0)] hS2
   have h4:=hk.1.1
   refine Xe5 ?_
   refine⟨⟨_,_,_,hS2,hk.1,AT,hI,rfl⟩,?_⟩
   rw[m0,m1];omega
  |true=>
   rw[if_pos rfl]at hI
   subst hI
   have hB:=hS2.hB
   have hR:=hS2.hR
   refine Xe3 hB ?_
   refine⟨fun he=>?_,fun he=>?_⟩
   ·rw[if_pos G_]at hV
    rw[hV]at hq
    exact hq S2 _ hS2.sub
   ·rw[if_neg G_]at hV
    rw[hV]at hq
    have h4:=hk.1.1
    have hA:jG (Hg b Z2).Reader=some (Z2.at_:Int):=by
     unfold jG bQ
     simp only[Bool.false_or,Bool.not_true,aN,Bool.false_eq_true,if_false]
    refine⟨[.int .i64 (Z2.at_:Int)],rfl,xL hR hA,?_⟩
    have e1:aC ((Z2.at_:Int)+7)=(Z2.at_:Int)+7:=an AT AT
    have e2:aC (((Z2.at_:Int)+7).tdiv 8)=(((Z2.at_+7)/8:Nat):Int):=by
     have e3:((Z2.at_:Int)+7).tdiv 8=(((Z2.at_+7)/8:Nat):Int):=by rw[Int.tdiv_eq_ediv_of_nonneg AT];omega
     rw[e3,an AT AT]
    refine Xh2 e1 e2 ?_
    exact⟨By,hq S2 _ hS2.sub⟩
def KY:IC:=dec 0x41461efc49fd583153902e78718bc
def KZ:IC:=dec 0x7ffbfe1121bfb57469b5b00285b0909c2cc5d4d6d6852bccf4eb816eddf34096c69223b4d9257b86a364625031fa9cbae21f6c495df198f1041bcd08dc842aca5e2cd9c7a7193e2cd72c37b6a9eeec5ed12a035ff5a09a282c04c6a206b6a4903585e893effa41764c0ea0082642bd5d013bb785266bce886e2d3938757c3a81bdb32d9f652f14ac03f34840fc99cedef5e05be2fbe8c63a309f01d7225a25cd2edcfb65d6abe8b2d7f10029f5b1a9d91eb563a6832cc4b33dbc6cefb75aec6b2ba1f83ec19de939f6dee8aa3a03285347beb55fc69e8e1c53911a87e26f6ffa34c3f8f755143f7636c774cc792f95c7a63cd7f2c466d1b839e7d074a627
def DQ:List jt:=[⟨4,false,some (1,false)⟩,⟨5,false,some (1,false)⟩,⟨6,false,some (1,false)⟩]
def Xs:SN prog 138 55 DQ KY 170 [4,5,6] KZ=true:=B_
def KX:IC:=dec 0x3112158f87224da861b61c4a34eb9169f247130593e8f59dd35c41ad
def TO:eO prog 170 14 [] KX=true:=B_
section
variable{b:List UInt8}{most:Int}
def O6:∀(f:Nat)(Z:ZS),ZI b most Z->ZI b most (zD b most f Z)
 |0,_,h=>h
 |f+1,Z,h=>by
  rw[zD]
  have hk:=(Ox h).1
  split
  ·exact hk
  ·exact O6 f _ hk
def Xh:(sa b most).1.length<=16777216/\0<=(sa b most).2.1/\(sa b most).2.1<=b.length:=by
 unfold sa
 split
 ·exact⟨Nat.zero_le _,Int.le_refl _,by show(0:Int)<=_;omega⟩
 ·rename_i hc
  have h:=O6 (b:=b) (most:=most) (8*b.length+2) ⟨0,0,[]⟩ ⟨Nat.zero_le _,C3⟩
  generalize zD b most (8*b.length+2) ⟨0,0,[]⟩=Z at h
  obtain⟨h1,h2⟩:=h
  dsimp only
  split
  ·exact⟨Nat.zero_le _,Int.le_refl _,by show(0:Int)<=_;omega⟩
  ·dsimp only
   omega
def WW(h:Td b=0):2<=b.length:=by
 unfold Td at h
 split at h
 ·simp
 ·cases h
end
structure Mg(s S:ae)(b4 b5 b6:Nat)(l:List UInt8)(n e:Int):Prop where
 n4:s b4=none
 n5:s b5=none
 n6:s b6=none
 d45:b4≠b5
 d46:b4≠b6
 d56:b5≠b6
 sub:Sub s S
 h4:∃w,S b4=some (.cells [.sl w 1 l.length (flat l)])
 h5:S b5=some (.cells [.int .i64 n])
 h6:S b6=some (.cells [.int .i64 e])
section
variable{s S S':ae}{b4 b5 b6:Nat}{l:List UInt8}{n e:Int}{Q:List AV->ae->Prop}
def Mg.E9(h:Mg s S b4 b5 b6 l n e)(e':Int):Mg s (S.set b6 (.cells [.int .i64 e'])) b4 b5 b6 l n e':=
 ⟨h.n4,h.n5,h.n6,h.d45,h.d46,h.d56,fun x o hx=>by
   have:x≠b6:=fun e=>by subst e;rw[h.n6]at hx;cases hx
   rw[ai this];exact h.sub x o hx,by rw[ai h.d46];exact h.h4,by rw[ai h.d56];exact h.h5,bp⟩
def Mg.E8(h:Mg s S b4 b5 b6 l n e)(n':Int):Mg s (S.set b5 (.cells [.int .i64 n'])) b4 b5 b6 l n' e:=
 ⟨h.n4,h.n5,h.n6,h.d45,h.d46,h.d56,fun x o hx=>by
   have:x≠b5:=fun e=>by subst e;rw[h.n5]at hx;cases hx
   rw[ai this];exact h.sub x o hx,by rw[ai h.d45];exact h.h4,bp,by rw[ai h.d56.symm];exact h.h6⟩
def Mg.I8(h:Mg s S b4 b5 b6 l n e)(w:Bool)(l':List UInt8):Mg s (S.set b4 (.cells [.sl w 1 l'.length (flat l')])) b4 b5 b6 l' n e:=
 ⟨h.n4,h.n5,h.n6,h.d45,h.d46,h.d56,fun x o hx=>by
   have:x≠b4:=fun e=>by subst e;rw[h.n4]at hx;cases hx
   rw[ai this];exact h.sub x o hx,⟨w,bp⟩,by rw[ai h.d45.symm];exact h.h5,by rw[ai h.d46.symm];exact h.h6⟩
def Mg.more(h:Mg s S b4 b5 b6 l n e)(hs:Sub S S'):Mg s S' b4 b5 b6 l n e:=⟨h.n4,h.n5,h.n6,h.d45,h.d46,h.d56,fun x o hx=>hs _ _ (h.sub x o hx),by obtain⟨w,h4⟩:=h.h4;exact⟨w,hs _ _ h4⟩,hs _ _ h.h5,hs _ _ h.h6⟩
def XG(h:Mg s S b4 b5 b6 l n e)(hq:∀s',Mg s s' b4 b5 b6 (if e≠0 then[]else l) (if e≠0 then 0 else n) e->Q [] s'):FND prog 170 [.ref b4 0,.ref b5 0,.ref b6 0] S Q:=by
 refine FND.of (kH mix) TO rfl (Nat.le_of_ble_eq_true rfl) ?_
 rw[KX]
 refine Xf7 ?_
 obtain⟨w,h4⟩:=h.h4
 have h5:=h.h5
 have h6:=h.h6
 simp -implicitDefEqProofs only[go_sem,seval,h6,h4,h5,ai h.d45,ai h.d45.symm,bL]
 refine⟨fun he=>?_,fun he=>?_⟩
 ·have he:e≠0:=G_
  rw[if_pos he,if_pos he]at hq
  exact hq _ ((h.I8 true []).E8 0)
 ·have he:¬e≠0:=G_
  rw[if_neg he,if_neg he]at hq
  exact hq _ h
end
def adv{b:List UInt8}{most:Int}{s:ae}{ow:Bool}{Q:List AV->ae->Prop}(hb:b.length<140737488355328)(hm1:-9223372036854775808<=most)(hm2:most<=9223372036854775807)(hq:∀s',Sub s s'->Q [.sl false 1 (tc b most).1.length (flat (tc b most).1),.int .i64 (tc b most).2.1,.int .i64 (tc b most).2.2] s'):FN prog 138 [.sl ow 1 b.length (flat b),.int .i64 most] s Q:=by
 refine FN.ofD (kH mix) Xs rfl (Nat.le_of_ble_eq_true rfl) ?_
 rw[KY]
 refine Xf7 ?_
 refine Xe5 ?_
 intro b4 n4 b5 n5 b6 n6
 refine⟨[b4,b5,b6],rfl,?_⟩
 have d45:b4≠b5:=fun e=>by subst e;rw[bp]at n5;cases n5
 have d56:b5≠b6:=fun e=>by subst e;rw[bp]at n6;cases n6
 rw[ai d56.symm]at n6
 have d46:b4≠b6:=fun e=>by subst e;rw[bp]at n6;cases n6
 rw[ai d46.symm]at n6
 rw[ai d45.symm]at n5
 have hU:Mg s (((s.set b4 (.cells [.sl true 1 0 []])).set b5 (.cells [.int .i64 0])).set b6 (.cells [.int .i64 0])) b4 b5 b6 [] 0 0:=by
  refine⟨n4,n5,n6,d45,d46,d56,fun x o hx=>?_,⟨true,by rw[ai d46,ai d45,bp];rfl⟩,by rw[ai d56,bp],bp⟩
  have h1:x≠b4:=fun e=>by subst e;rw[n4]at hx;cases hx
  have h2:x≠b5:=fun e=>by subst e;rw[n5]at hx;cases hx
  have h3:x≠b6:=fun e=>by subst e;rw[n6]at hx;cases hx
  rw[ai h3,ai h2,ai h1];exact hx
 generalize((s.set b4 (.cells [.sl true 1 0 []])).set b5 (.cells [.int .i64 0])).set b6 (.cells [.int .i64 0])=S at hU⊢
 clear n4 n5 n6
 have fin:∀(S:ae)(l:List UInt8)(n e:Int),Mg s S b4 b5 b6 l n e->tc b most=(if e≠0 then[]else l,if e≠0 then 0 else n,e)->Yk prog 170 [b4,b5,b6] DQ Q .ret ⟨[(4,.ref b4 0),(5,.ref b5 0),(6,.ref b6 0)],[],S⟩:=by
  intro S l n e h hv
  refine XG h fun s' h'=>?_
  obtain⟨w,h4⟩:=h'.h4
  have h5:=h'.h5
  have h6:=h'.h6
  rw[hv]at hq
  rw[DQ]
  refine Xf1 h4 h5 h6 ?_
  exact hq s' h'.sub
 have h5:=hU.h5
 have h6:=hU.h6
 obtain⟨w,h4⟩:=hU.h4
 rw[KZ]
 refine Xf7 ?_
 simp -implicitDefEqProofs only[go_sem,seval,h4,h5,h6,ai d45,ai d45.symm,ai d46,ai d46.symm,ai d56,ai d56.symm,bL]
 refine⟨fun hc=>fin _ [] 0 2 (((hU.I8 true []).E8 0).E9 2) (by rw[tc,if_pos J_];rfl),fun hc=>?_⟩
 have hc:¬(most<0\/most>16777216):=J_
 refine FE.app (FQ (agN b)) ?_
 simp -implicitDefEqProofs only[go_sem,Nat.reduceBEq,Nat.reduceAdd,Nat.reduceMul,Nat.reduceLeDiff,Nat.reduceEqDiff,Nat.reduceBNe,UInt8.reduceToNat,UInt32.reduceToNat,h4,h5,h6,ai d45,ai d45.symm,ai d46,ai d46.symm,ai d56,ai d56.symm,bL]
 refine⟨fun he=>?_,fun he=>?_⟩
 ·have he:Td b≠0:=G_
  exact fin _ [] 0 (Td b) ((((hU.E9 _).I8 true []).E8 0).E9 (Td b)) (by rw[tc,if_neg hc,if_pos he,if_pos he,if_pos he])
 have he:Td b=0:=G_
 have hl:=WW he
 have hU1:=hU.E9 (Td b)
 generalize S.set b6 (.cells [.int .i64 (Td b)])=S1 at hU1⊢
 clear h4 h5 h6 hU
 have hp:part b 2 (b.length:Int)=b.drop 2:=by
  unfold part
  rw[List.take_of_length_le P_];rfl
 rw[hp]
 refine⟨⟨AT,AT⟩,?_⟩
 have hvl:=Xh (b:=b.drop 2) (most:=most)
 rw[List.length_drop]at hvl
 have hv:tc b most=if(sa (b.drop 2) most).2.2≠0 then([],0,(sa (b.drop 2) most).2.2)else if(b.length:Int)<(sa (b.drop 2) most).2.1+6 then([],0,10)else if(b.drop ((sa (b.drop 2) most).2.1+2).toNat).take 4≠adB (Oe (sa (b.drop 2) most).1)then([],0,12)else((sa (b.drop 2) most).1,(sa (b.drop 2) most).2.1+6,0):=by rw[tc,if_neg hc,if_neg G_]
 refine abE P_ hm1 hm2 fun S2 w2 hs2=>?_
 have hU2:=hU1.more hs2
 clear hU1 hs2 hp
 generalize sa (b.drop 2) most=r at hv hvl⊢
 obtain⟨l,m,e⟩:=r
 dsimp only at hv hvl
 have h5:=hU2.h5
 have h6:=hU2.h6
 obtain⟨w3,h4⟩:=hU2.h4
 have e1:aC (m+2)=m+2:=an AT AT
 have e2:aC (m+2+4)=m+2+4:=an AT AT
 have e3:aC ((b.length:Int) -(m+2))=(b.length:Int) -(m+2):=an AT AT
 simp -implicitDefEqProofs only[go_sem,seval,h4,h5,h6,e1,e2,e3,ai d45,ai d45.symm,ai d46,ai d46.symm,ai d56,ai d56.symm,bL]
 refine⟨fun he=>?_,fun he=>?_⟩
 ·have he:e≠0:=G_
  exact fin _ l m e ((((((hU2.I8 _ l).E8 m).E9 e).I8 _ l).E8 m).E9 e) (by rw[hv,if_pos he,if_pos he,if_pos he])
 have he:e=0:=G_
 rw[if_neg G_]at hv
 subst he
 have hUa:=(((hU2.I8 false l).E8 m).E9 0).E8 (m+2)
 refine⟨fun hlt=>?_,fun hlt=>?_⟩
 ·have hlt:(b.length:Int)<m+6:=by have:=of_decide_eq_true hlt;omega
  exact fin _ l (m+2) 10 (((hUa.I8 false l).E8 (m+2)).E9 10) (by rw[hv,if_pos hlt];rfl)
 have hlt:¬(b.length:Int)<m+6:=by have:=of_decide_eq_false hlt;omega
 rw[if_neg hlt]at hv
 have hp:part b (m+2) (m+2+4)=(b.drop (m+2).toNat).take 4:=by
  unfold part
  rw[show(m+2+4 -(m+2)).toNat=4 by omega]
 rw[hp]
 refine⟨⟨AT,AT,AT⟩,_,rfl,Hx (acv l AT),?_⟩
 simp -implicitDefEqProofs only[go_sem,seval,h4,h5,h6,e1,e2,e3,ai d45,ai d45.symm,ai d46,ai d46.symm,ai d56,ai d56.symm,bL]
 refine⟨_,rfl,Ci (acx _),?_⟩
 simp -implicitDefEqProofs only[go_sem,seval,h4,h5,h6,e1,e2,e3,ai d45,ai d45.symm,ai d46,ai d46.symm,ai d56,ai d56.symm,bL]
 refine⟨_,rfl,Cr (r:=((aO.mk ((b.drop (m+2).toNat).take 4)).b==(aO.mk (adB (Oe l))).b)) rfl,?_⟩
 simp -implicitDefEqProofs only[go_sem,seval,h4,h5,h6,e1,e2,e3,ai d45,ai d45.symm,ai d46,ai d46.symm,ai d56,ai d56.symm,bL]
 refine⟨fun hne=>?_,fun hne=>?_⟩
 ·have hne:(b.drop (m+2).toNat).take 4≠adB (Oe l):=p_
  exact fin _ l (m+2) 12 (((hUa.I8 false l).E8 (m+2)).E9 12) (by rw[hv,if_pos hne];rfl)
 ·have hne:¬(b.drop (m+2).toNat).take 4≠adB (Oe l):=p_
  exact fin _ l (m+2+4) 0 (((hUa.I8 false l).E8 (m+2+4)).E9 0) (by rw[hv,if_neg hne,show m+6=m+2+4 by omega];rfl)
def adu{b:List UInt8}{most:Int}{s:ae}{ow:Bool}(hb:b.length<140737488355328)(hm1:-9223372036854775808<=most)(hm2:most<=9223372036854775807):FE prog 138 [.sl ow 1 b.length (flat b),.int .i64 most] s [.sl false 1 (tc b most).1.length (flat (tc b most).1),.int .i64 (tc b most).2.1,.int .i64 (tc b most).2.2] s:=FN.j4 (adv hb hm1 hm2 fun s' h=>⟨s,h,rfl,rfl⟩)
def gN(b:List UInt8)(most:Int):Option (List UInt8×Int×Int):=a8 (b.length<140737488355328/\-9223372036854775808<=most/\most<=9223372036854775807) (some (tc b most))
def Eo{b:List UInt8}{most:Int}{s:ae}{r:List UInt8×Int×Int}(h:gN b most=some r):FE prog 138 [.sl false 1 b.length (flat b),.int .i64 most] s [.sl false 1 r.1.length (flat r.1),.int .i64 r.2.1,.int .i64 r.2.2] s:=by
 unfold gN a8 at h
 split at h
 ·rename_i hc
  injection h with h
  subst h
  exact adu hc.1 hc.2.1 hc.2.2
 ·cases h
end Go.AB
end
section
namespace Go.AB
open Go Go.Sort Go.Proofs Go.Shelf
def EI{G G':Gh}{w w':World}(hn:∀b,G.O b=.none)(h:aI G w G' w'):∃q os,w'=grow (w.drewN q) os:=by
 refine⟨w'.drawn -w.drawn,w'.heap.extract w.heap.size w'.heap.size,?_⟩
 have Tg:w'.heap=w.heap++w'.heap.extract w.heap.size w'.heap.size:=by
  apply Array.ext_getElem?
  intro i
  rcases Nat.lt_or_ge i w.heap.size with hi|hi
  ·rw[Array.getElem?_append_left hi];exact h.frame i hi (.inr (hn i))
  ·rw[Array.getElem?_append_right hi,Array.getElem?_extract]
   have e:w.heap.size+(i -w.heap.size)=i:=AT
   rw[e]
   split
   ·rfl
   ·rename_i h2
    rw[Array.getElem?_eq_none AT]
 have hd:=h.drawn
 have ho:=h.os
 have ht:=h.tape
 have hp:=h.output
 generalize w'.heap.extract w.heap.size w'.heap.size=os at Tg
 obtain⟨hp',tp,dr,o,ou⟩:=w'
 simp only at Tg hd ho ht hp
 subst Tg;subst ho;subst ht;subst hp
 show _={w.drewN (dr -w.drawn)with heap:=w.heap++os}
 unfold World.drewN
 have:w.drawn+(dr -w.drawn)=dr:=AT
 rw[this]
section
variable{P:Program}{f g:FuncId}{α:Type}[aP α][Inhabited α]{enc:α->List Value}{k:Nat}{cf:α->α->Int}
def Nt(hfe:∀x y:α,FE P g [.agg (aP.cells x),.agg (aP.cells y)] B6 [.int .i64 (cf x y)] B6)(afM:∀(w:World)(R:Nat->Nat)(x:α),VR w R (.agg (aP.cells x)) (.agg (enc x).toArray))(sI off size:Nat)(w:World):
 CmpLays P g #[] enc k cf sI off size w:=by
 intro m os dk hs x y
 have h:=hfe x y ⟨fun _=>0,fun _=>.none⟩ (sortWorldK enc k w sI off m dk os) #[.agg (enc x).toArray,.agg (enc y).toArray] ⟨fun _ _=>rfl,fun _ _=>rfl⟩ (fun b=>.inl rfl) (fun b o h=>F_)
  ⟨rfl,fun j a v hj hv=>by
    match j,hj,hv with
    |0,hj,hv=>cases hj;cases hv;exact afM _ _ x
    |1,hj,hv=>cases hj;cases hv;exact afM _ _ y⟩
 rw[Array.append_empty]
 refine h.mono ?_
 rintro e w' ⟨v,rs,s',G',rfl,⟨rfl,rfl⟩,_,_,hr,hp⟩
 have hv:v=.int .i64 (cf x y):=VR.cu hr.1
 subst hv
 exact⟨rfl,EI (fun _=>rfl) hp⟩
omit[Inhabited α]in
theorem Gc(l:List α)(sp:List AV){i r:Nat}(hi:i<l.length)(hr:r<aP.w α):(flat l++sp)[i*aP.w α+r]? =(aP.cells l[i])[r]? :=by
 have hlt:i*aP.w α+r<(flat l).length:=by
  rw[ax]
  calc i*aP.w α+r<(i+1)*aP.w α:=by rw[Nat.add_mul];omega
   _<=l.length*aP.w α:=Nat.mul_le_mul_right _ hi
 rw[List.getElem?_append_left hlt]
 have h:=lG l (aP.w α) i 1 rfl
 rw[Nat.one_mul,List.drop_eq_getElem_cons hi]at h
 have h2:(AB.sub (flat l) (i*aP.w α) (aP.w α))[r]? =(aP.cells l[i])[r]? :=by
  rw[h]
  show(flat [l[i]])[r]? =_
  unfold flat
  simp
 rw[Ca,if_pos hr]at h2
 exact h2
def Yt(hk:k=aP.w α)(hlen:∀x,(enc x).length=k)
 (abr:∀(w:World)(R:Nat->Nat)(x:α)(vs:List Value),vs.length=k->(∀(j:Nat)(c:AV)(v:Value),(aP.cells x)[j]? =some c->vs[j]? =some v->VR w R c v)->vs=enc x)
 (hvr:∀(w:World)(R:Nat->Nat)(x:α)(j:Nat)(c:AV)(v:Value),(aP.cells x)[j]? =some c->(enc x)[j]? =some v->VR w R c v)
 (ajz:∀(sI off cap:Nat)(d:Array α)(w:World),HoldsK enc k w sI off d->sI<w.heap.size->d.size<4611686018427387904->Calls P f #[.slice (some ⟨sI,off,none⟩) d.size cap,.func (.func g) #[] #[]] w fun e w'=>e=.returned (.tuple #[])/\∃d' n os,PermIn 0 d.size d d'/\SortedIn (ltOf cf) 0 d.size d'/\w'=sortWorldK enc k w sI off n d' os)
 {b cap:Nat}{l:List α}{sp:List AV}{s:ae}{Q:List AV->ae->Prop}(hs:s b=some (.cells (flat l++sp)))(hc:0<cap)(hb:l.length<4611686018427387904)
 (hq:∀l':List α,l'.Perm l->l'.Pairwise (fun x y=>ltOf cf y x=false)->Q [] (s.set b (.cells (flat l'++sp)))):FN P f [.arr b 0 l.length cap,.fn g [] []] s Q:=by
 subst hk
 intro G w vs hg ho eJ ha
 have hvs:vs= #[.slice (some ⟨b,0,none⟩) l.length cap,.func (.func g) #[] #[]]:=by
  obtain⟨h1,h2⟩:=ha
  have h1':vs.size=2:=h1
  apply Array.ext (by simpa using h1')
  intro i hi1 hi2
  have hi:i<2:=AT
  match i,hi with
  |0,_=>exact VR.pJ (h2 0 _ _ rfl (Array.getElem?_eq_getElem AT)) hc
  |1,_=>
   obtain⟨vf,vc,e,s1,_,s2,_⟩:=VR.Im (h2 1 _ _ rfl (Array.getElem?_eq_getElem AT))
   rw[e]
   rw[Array.eq_empty_of_size_eq_zero s1,Array.eq_empty_of_size_eq_zero s2]
   rfl
 subst hvs
 obtain⟨q2,q3,c,t,q4,q5,q6⟩:=eJ b _ hs
 have hbl:b<w.heap.size:=(Array.getElem?_eq_some_iff.1 q4).1
 have hw0:0<aP.w α:=aP.pos
 have hcs:c.size=l.length*aP.w α+sp.length:=by rw[q5.1,List.length_append,ax]
 have ep:∀i(hi:i<l.length),(c.toList.drop (i*aP.w α)).take (aP.w α)=enc l[i]:=fun i hi=>by
  have hle:i*aP.w α+aP.w α<=l.length*aP.w α:=by rw[<-Nat.succ_mul];exact Nat.mul_le_mul_right _ hi
  refine abr w G.R l[i] _ C3 fun j x v hx hv=>?_
  have hj:j<aP.w α:=by
   have:=(List.getElem?_eq_some_iff.1 hv).1
   simp at this;omega
  rw[List.getElem?_take,if_pos hj,List.getElem?_drop]at hv
  exact(q5.2 _ x v (by rw[Gc l sp hi hj];exact hx) Xb9).1
 have kj:∀(l2:List α)(i r:Nat)(hi:i<l2.length),r<aP.w α->(flatK enc (aP.w α) l2.toArray)[i*aP.w α+r]! =(enc l2[i])[r]!:=fun l2 i r hi hr=>by
  rw[get_flatK _ _ _ _ (by
   calc i*aP.w α+r<(i+1)*aP.w α:=by rw[Nat.add_mul];omega
    _<=l2.toArray.size*aP.w α:=Nat.mul_le_mul_right _ (by rw[List.size_toArray];exact hi))]
  have e1:(i*aP.w α+r)/aP.w α=i:=by rw[Nat.mul_comm,Nat.mul_add_div hw0,Nat.div_eq_of_lt hr,Nat.add_zero]
  have e2:(i*aP.w α+r)% aP.w α=r:=by rw[Nat.mul_comm,Nat.mul_add_mod,Nat.mod_eq_of_lt hr]
  rw[e1,e2]
  simp[hi]
 have hH:HoldsK enc (aP.w α) w b 0 l.toArray:=by
  intro j hj
  rw[size_flatK]at hj
  have hj:j<l.length*aP.w α:=by simpa using hj
  have hi:j/aP.w α<l.length:=by rw[Nat.div_lt_iff_lt_mul hw0];exact hj
  have hr:j % aP.w α<aP.w α:=Nat.mod_lt _ hw0
  have ej:j/aP.w α*aP.w α+j % aP.w α=j:=by
   have:=Nat.div_add_mod j (aP.w α)
   rw[Nat.mul_comm]at this;exact this
  refine⟨?_,?_⟩
  ·rw[Nat.zero_add,cell_of_row w q4]
   have h1:=ep _ hi
   have h2:((c.toList.drop (j/aP.w α*aP.w α)).take (aP.w α))[j % aP.w α]? =c[j]? :=by rw[List.getElem?_take,if_pos hr,List.getElem?_drop,ej];simp
   rw[<-h2,h1]
   have h3:=kj l _ _ hi hr
   rw[ej]at h3
   show _=some ((flatK enc (aP.w α) l.toArray)[j]!)
   rw[h3]
   have:j % aP.w α<(enc l[j/aP.w α]).length:=by rw[hlen];exact hr
   simp[this]
  ·unfold World.frozen?
   simp[q4]
 have ZC:=ajz b 0 cap l.toArray w hH hbl (by simpa using hb)
 rw[List.size_toArray]at ZC
 refine ZC.mono ?_
 rintro e w' ⟨rfl,d',m,os,hp,hsd,rfl⟩
 obtain⟨p1,_,p3⟩:=hp
 have p1:d'.size=l.length:=by simpa using p1
 have O3:d'.toList.Perm l:=by
  have e1:d'.extract 0 l.toArray.size=d':=by rw[List.size_toArray,<-p1];exact Array.extract_size
  have e2:l.toArray.extract 0 l.toArray.size=l.toArray:=Array.extract_size
  have:(d'.extract 0 l.toArray.size).toList.Perm (l.toArray.extract 0 l.toArray.size).toList:=by simpa using p3
  rw[e1,e2]at this
  simpa using this
 obtain⟨l',rfl⟩:∃l':List α,d'=l'.toArray:=⟨d'.toList,BY⟩
 have hl':l'.length=l.length:=by simpa using p1
 have O3:l'.Perm l:=by simpa using O3
 have AL:l'.Pairwise (fun x y=>ltOf cf y x=false):=by
  rw[List.pairwise_iff_getElem]
  intro i j hi hj hij
  have:=hsd i j (Nat.zero_le _) hij AT
  simpa[hi,hj]using this
 generalize hF:flatK enc (aP.w α) l'.toArray=F
 have hFs:F.size=l.length*aP.w α:=by rw[<-hF,size_flatK];simp[hl']
 generalize hw':sortWorldK enc (aP.w α) w b 0 m l'.toArray os=w'
 have ew:w'=grow (mapBlock (Go.Sort.ahead w m) b (putCells id 0 F)) os:=by rw[<-hw',<-hF];rfl
 have hsz:w.heap.size<=w'.heap.size:=by rw[ew];simp[grow,mapBlock,Go.Sort.ahead]
 have KM:∀i,i<w.heap.size->i≠b->w'.heap[i]? =w.heap[i]? :=fun i hi hib=>by
  rw[ew,heap_grow_old _ _ (by simpa[mapBlock,Go.Sort.ahead]using hi)]
  unfold mapBlock
  show((Go.Sort.ahead w m).heap.modify b _)[i]? =_
  rw[Array.getElem?_modify,if_neg (fun e=>hib e.symm)]
  rfl
 have W0:w'.heap[b]? =some (.cells (putCells id 0 F c) t (0,0)):=by
  rw[ew,heap_grow_old _ _ (by simpa[mapBlock,Go.Sort.ahead]using hbl)]
  unfold mapBlock
  show((Go.Sort.ahead w m).heap.modify b _)[b]? =_
  rw[Array.getElem?_modify,if_pos rfl]
  show Option.map _ (w.heap[b]?)=_
  rw[q4];rfl
 have bF:aI G w G w':=by
  refine⟨by rw[ew];rfl,by rw[ew];rfl,by rw[ew];rfl,by rw[ew];exact Nat.le_add_right _ _,hsz,fun _ _=>Nat.le_refl _,fun i j hi hj=>?_,fun i hi hof=>?_,fun _ _ h=>⟨h,rfl⟩,fun _ _ h=>⟨h,rfl⟩⟩
  ·have hib:i≠b:=fun e=>by subst e;rw[q3]at hj;omega
   exact World.cell?_of_block (KM i hi hib)
  ·exact KM i hi fun e=>by subst e;rw[q2]at hof;rcases hof with h|h<;>cases h
 have hg':cE G w':=⟨fun i hi=>hg.kc i (Nat.le_trans hsz hi),fun i hi=>hg.kV i (Nat.le_trans hsz hi)⟩
 have hlt:∀i,G.O i≠.none->i<w.heap.size:=fun i hi=>hg.lt hi
 refine⟨_,[],_,G,rfl,hq l' O3 AL,hg',fun i o hi=>?_,⟨#[],rfl,rfl,fun j x y hx=>T_⟩,bF⟩
 unfold ae.set at hi
 by_cases hib:i=b
 ·rw[if_pos hib]at hi;injection hi with hi;subst hi;subst hib
  refine⟨q2,q3,_,t,W0,⟨?_,fun j x y hx hy=>?_⟩,?_⟩
  ·unfold putCells
   rw[Array.size_mapIdx,hcs,List.length_append,ax,hl']
  ·unfold putCells at hy
   rw[Array.getElem?_mapIdx]at hy
   by_cases hj:j<l.length*aP.w α
   ·have hjc:j<c.size:=AT
    have hi':j/aP.w α<l'.length:=by rw[Nat.div_lt_iff_lt_mul hw0,hl'];exact hj
    have hr:j % aP.w α<aP.w α:=Nat.mod_lt _ hw0
    have ej:j/aP.w α*aP.w α+j % aP.w α=j:=by
     have:=Nat.div_add_mod j (aP.w α)
     rw[Nat.mul_comm]at this;exact this
    rw[Array.getElem?_eq_getElem hjc]at hy
    simp only[Option.map_some,Nat.zero_le,Nat.zero_add,hFs,hj,and_self,if_true,Nat.sub_zero,id]at hy
    have hx2:(aP.cells l'[j/aP.w α])[j % aP.w α]? =some x:=by rw[<-Gc l' sp hi' hr,ej];exact hx
    have hy2:(enc l'[j/aP.w α])[j % aP.w α]? =some y:=by
     have h3:=kj l' _ _ hi' hr
     rw[ej,hF]at h3
     rw[h3]at hy
     have:j % aP.w α<(enc l'[j/aP.w α]).length:=by rw[hlen];exact hr
     simp[this]at hy⊢
     exact hy
    refine⟨hvr w' G.R _ _ _ _ hx2 hy2,?_⟩
    have hxm:x∈flat l':=by
     have:j<(flat l').length:=by rw[ax,hl'];exact hj
     rw[List.getElem?_append_left this]at hx
     exact List.mem_of_getElem? hx
    have hv:=aH l'
    rw[<-hv]at hxm
    obtain⟨x0,_,rfl⟩:=List.mem_map.1 hxm
    exact dS.view ..
   ·have hnj:¬(0<=j/\j<0+F.size):=fun h=>hj (by have:=h.2;omega)
    have hy':c[j]? =some y:=by
     cases hcj:c[j]? with
     |none=>rw[hcj]at hy;cases hy
     |some u=>rw[hcj]at hy;simp only[Option.map_some,if_neg hnj]at hy;exact hy
    have hx':(flat l++sp)[j]? =some x:=by
     rw[List.getElem?_append_right (by rw[ax,hl'];omega),ax,hl']at hx
     rw[List.getElem?_append_right (by rw[ax];omega),ax]
     exact hx
    obtain⟨h1,h2⟩:=q5.2 j x y hx' hy'
    exact⟨bF.vr hg h1,h2.mono fun i hi=>⟨hi,rfl,KM i (hlt i (by rw[hi];simp)) (fun e=>by subst e;rw[q2]at hi;cases hi)⟩⟩
  ·intro x hx
   rcases List.mem_append.1 hx with hx|hx
   ·refine q6 x (List.mem_append_left _ ?_)
    unfold flat at hx⊢
    rw[List.mem_flatten]at hx⊢
    obtain⟨cs,h1,h2⟩:=hx
    obtain⟨a,h3,rfl⟩:=List.mem_map.1 h1
    exact⟨_,List.mem_map.2 ⟨a,O3.mem_iff.1 h3,rfl⟩,h2⟩
   ·exact q6 x (List.mem_append_right _ hx)
 ·rw[if_neg hib]at hi
  obtain⟨r1,r2,r3⟩:=eJ i o hi
  refine⟨r1,r2,?_⟩
  have hbk:=KM i (hlt i (by rw[r1];simp)) hib
  cases o with
  |cells cs=>
   obtain⟨c0,t0,r4,r5,r6⟩:=r3
   exact⟨c0,t0,hbk.trans r4,r5.mono (fun _ _ hv=>bF.vr hg hv) (fun b' j hb'=>⟨hb',rfl,KM b' (hlt b' (by rw[hb'];simp)) (fun e=>by subst e;rw[q2]at hb';cases hb')⟩),r6⟩
  |map es=>
   obtain⟨jC,clock,r4,r5,r6⟩:=r3
   exact⟨jC,clock,hbk.trans r4,r5,fun j x y hx hy=>⟨bF.vr hg (r6 j x y hx hy).1,bF.vr hg (r6 j x y hx hy).2⟩⟩
end
end Go.AB
end
section
namespace Go.Proofs
open Go.Shelf
def Tryz.A6:Go.Shelf.Ren:=⟨fun|6=>129|15=>165|14=>164|28=>197|29=>198|20=>189|21=>190|22=>191|23=>192|24=>193|25=>194|26=>195|27=>196|46=>221|47=>222|48=>223|49=>224|50=>225|57=>254|n=>n,fun|22=>23|24=>73|25=>190|3=>3|39=>238|0=>0|53=>254|55=>287|4=>4|46=>280|45=>279|50=>75|5=>5|9=>9|66=>310|70=>250|76=>346|77=>347|n=>n,fun|n=>n⟩
theorem Tryz.PG:Go.Proofs.SlLaysF0.n6 Tryz.prog Tryz.A6:={
 mixed:=by kernel_rfl
 f6:=⟨Tryz.f129.name,by decide,Tryz.func129.trans (congrArg some (by kernel_rfl))⟩
 f14:=⟨Tryz.f164.name,by decide,Tryz.func164.trans (congrArg some (by kernel_rfl))⟩
 f15:=Tryz.func165.trans (congrArg some (by kernel_rfl))
 f20:=⟨Tryz.f189.name,by decide,Tryz.func189.trans (congrArg some (by kernel_rfl))⟩
 f21:=⟨Tryz.f190.name,by decide,Tryz.func190.trans (congrArg some (by kernel_rfl))⟩
 f22:=⟨Tryz.f191.name,by decide,Tryz.func191.trans (congrArg some (by kernel_rfl))⟩
 f23:=⟨Tryz.f192.name,by decide,Tryz.func192.trans (congrArg some (by kernel_rfl))⟩
 f24:=⟨Tryz.f193.name,by decide,Tryz.func193.trans (congrArg some (by kernel_rfl))⟩
 f25:=⟨Tryz.f194.name,by decide,Tryz.func194.trans (congrArg some (by kernel_rfl))⟩
 f26:=⟨Tryz.f195.name,by decide,Tryz.func195.trans (congrArg some (by kernel_rfl))⟩
 f27:=⟨Tryz.f196.name,by decide,Tryz.func196.trans (congrArg some (by kernel_rfl))⟩
 f28:=Tryz.func197.trans (congrArg some (by kernel_rfl))
 f29:=Tryz.func198.trans (congrArg some (by kernel_rfl))
 f46:=⟨Tryz.f221.name,by decide,Tryz.func221.trans (congrArg some (by kernel_rfl))⟩
 f47:=Tryz.func222.trans (congrArg some (by kernel_rfl))
 f48:=Tryz.func223.trans (congrArg some (by kernel_rfl))
 f49:=⟨Tryz.f224.name,by decide,Tryz.func224.trans (congrArg some (by kernel_rfl))⟩
 f50:=⟨Tryz.f225.name,by decide,Tryz.func225.trans (congrArg some (by kernel_rfl))⟩
 f57:=⟨Tryz.f254.name,by decide,Tryz.func254.trans (congrArg some (by kernel_rfl))⟩
 t0:=Tryz.underlying0
 a0:=Tryz.isAgg0
 z0:=Tryz.sizeOf0
 v0:=Tryz.zeroValue0
 t3:=Tryz.underlying3
 a3:=Tryz.isAgg3
 z3:=Tryz.sizeOf3
 v3:=Tryz.zeroValue3
 t4:=Tryz.underlying4
 a4:=Tryz.isAgg4
 z4:=Tryz.sizeOf4
 v4:=Tryz.zeroValue4
 t5:=Tryz.underlying5
 a5:=Tryz.isAgg5
 z5:=Tryz.sizeOf5
 v5:=Tryz.zeroValue5
 t9:=Tryz.underlying9
 a9:=Tryz.isAgg9
 z9:=Tryz.sizeOf9
 v9:=Tryz.zeroValue9
 t22:=Tryz.underlying23
 a22:=Tryz.isAgg23
 z22:=Tryz.sizeOf23
 v22:=Tryz.zeroValue23
 t25:=Tryz.underlying190
 a25:=Tryz.isAgg190
 z25:=Tryz.sizeOf190
 v25:=Tryz.zeroValue190
 t39:=Tryz.underlying238
 a39:=Tryz.isAgg238
 z39:=Tryz.sizeOf238
 v39:=Tryz.zeroValue238
 t45:=Tryz.underlying279
 a45:=Tryz.isAgg279
 z45:=Tryz.sizeOf279
 v45:=Tryz.zeroValue279
 t46:=Tryz.underlying280
 a46:=Tryz.isAgg280
 z46:=Tryz.sizeOf280
 v46:=Tryz.zeroValue280
 t50:=Tryz.underlying75
 a50:=Tryz.isAgg75
 z50:=Tryz.sizeOf75
 v50:=Tryz.zeroValue75
 t53:=Tryz.underlying254
 a53:=Tryz.isAgg254
 z53:=Tryz.sizeOf254
 v53:=Tryz.zeroValue254
 t55:=Tryz.underlying287
 a55:=Tryz.isAgg287
 z55:=Tryz.sizeOf287
 v55:=Tryz.zeroValue287
 t66:=Tryz.underlying310
 a66:=Tryz.isAgg310
 z66:=Tryz.sizeOf310
 v66:=Tryz.zeroValue310
 t70:=Tryz.underlying250
 a70:=Tryz.isAgg250
 z70:=Tryz.sizeOf250
 v70:=Tryz.zeroValue250
 t76:=Tryz.underlying346
 a76:=Tryz.isAgg346
 z76:=Tryz.sizeOf346
 v76:=Tryz.zeroValue346
 t77:=Tryz.underlying347
 a77:=Tryz.isAgg347
 z77:=Tryz.sizeOf347
 v77:=Tryz.zeroValue347}
end Go.Proofs
end
section
set_option maxRecDepth 4000
namespace Go.AB
open Go
open Go.Proofs.Tryz (prog)
attribute[-go_sem] cj cS bK ch Nat.add_zero mO cF
structure uj where
 Kind:Int
 aS:Int
 To:Int
 V:aa
 S:aO
instance:aP uj:=⟨8,fun x=>[.int .i64 x.Kind,.int .i64 x.aS,.int .i64 x.To,.int .i64 x.V.Kind,.int .i64 x.V.N,.str x.V.S.b,sF 4 x.V.L,.str x.S.b],(uj.mk 0 0 0 (aa.mk 0 0 (aO.mk []) []) (aO.mk [])),By,fun _=>rfl,fun _=>rfl⟩
end Go.AB
end
section
namespace Go.AB
open Go
def whn{α:Type}{g:Bool}{z:α}{o:Option α}(hg:g=false):jA g z o=some z:=H_
def nT:¬((!true)=true):=BY
theorem nF:¬(false=true):=BY
def spB(c:UInt8):Bool:=((((((c.toNat:Int)==0)||((c.toNat:Int)==9))||((c.toNat:Int)==10))||((c.toNat:Int)==12))||((c.toNat:Int)==13))||((c.toNat:Int)==32)
def deB(c:UInt8):Bool:=decide (Lib.indexByte [40,41,60,62,91,93,123,125,47,37] c>=0)
def Yl(c:UInt8):Bool:=!spB c&&!deB c
def Ii(c:UInt8):Int:=if(decide ((c.toNat:Int)>=48))&&(decide ((c.toNat:Int)<=57))then(c.toNat:Int) -48 else if(decide ((c.toNat:Int)>=97))&&(decide ((c.toNat:Int)<=102))then(c.toNat:Int) -87 else if(decide ((c.toNat:Int)>=65))&&(decide ((c.toNat:Int)<=70))then(c.toNat:Int) -55 else -1
theorem xc(c:UInt8):jX c=some (spB c):=rfl
def K8(c:UInt8):gJ c=some (Yl c):=by
 unfold gJ Yl
 rw[xc]
 cases spB c<;>rfl
def zM(c:UInt8):jy c=some (Ii c):=of_decide_eq_true (nr (fun c=>decide (jy c=some (Ii c))) B_ c)
def W8(c:UInt8):-1<=Ii c/\Ii c<=15:=of_decide_eq_true (nr (fun c=>decide (-1<=Ii c/\Ii c<=15)) B_ c)
theorem dH{b:List UInt8}{j:Nat}{x:UInt8}(h:b[j]? =some x):j<b.length/\ix b (j:Int)=x:=⟨(List.getElem?_eq_some_iff.1 h).1,TQ h⟩
theorem rQ{b:List UInt8}{j:Nat}(h:b[j]? =none):b.length<=j:=List.getElem?_eq_none_iff.1 h
theorem zb{n:Nat}(h:n<4611686018427387904):aC ((n:Int)+1)=((n+1:Nat):Int):=by grind [an]
section
variable(b:List UInt8)
def Ja:Nat->Bool->Nat->Nat
 |0,_,j=>j
 |f+1,c,j=>match b[j]? with
  |none=>j
  |some x=>if c then Ja f (((x.toNat:Int)!=10)&&((x.toNat:Int)!=13)) (j+1)else if(x.toNat:Int)==37 then Ja f true (j+1)else if !spB x then j else Ja f false (j+1)
def JM:Nat->Nat->Nat
 |0,j=>j
 |f+1,j=>match b[j]? with
  |none=>j
  |some x=>if Yl x then JM f (j+1)else j
variable{b}
def N6:∀(f:Nat)(c:Bool)(j:Nat),j<=b.length->j<=Ja b f c j/\Ja b f c j<=b.length
 |0,_,j,h=>⟨Nat.le_refl _,h⟩
 |f+1,c,j,h=>by
  rw[Ja]
  cases hx:b[j]? with
  |none=>grind
  |some x=>
   have hj:=(dH hx).1
   have ih:=fun c=>N6 f c (j+1) AT
   simp
   split
   ·have:=ih (((x.toNat:Int)!=10)&&((x.toNat:Int)!=13));omega
   ·split
    ·have:=ih true;omega
    ·split
     ·omega
     ·have:=ih false;omega
theorem I6:∀(f:Nat)(j:Nat),j<=b.length->j<=JM b f j/\JM b f j<=b.length
 |0,j,h=>⟨Nat.le_refl _,h⟩
 |f+1,j,h=>by
  rw[JM]
  cases hx:b[j]? with
  |none=>grind
  |some x=>
   have hj:=(dH hx).1
   have ih:=I6 f (j+1) AT
   simp
   split<;>omega
def Fa(b:List UInt8)(j:Nat):Nat:=Ja b b.length false j
def agi(hb:b.length<1152921504606846976)(k:Nat)(hk:k<=b.length):qY b (k:Int)=some (Fa b k:Int):=by
 have hT:=N6 (b:=b) b.length false k hk
 generalize hTT:Ja b b.length false k=T at hT
 have hA:Fa b k=T:=hTT
 rw[hA]
 unfold qY
 refine al BY (Pf (z:=if T<b.length then .inr (T:Int)else .inl ()) (Mw (iter_eq (o:=if T<b.length then .inr (T:Int)else .inl ()) (fun(s:Int×Bool)=>∃j f:Nat,s.1=j/\j<=b.length/\b.length -j<=f/\Ja b f s.2 j=T) (fun s=>b.length -s.1.toNat) ⟨k,b.length,rfl,hk,AT,hTT⟩ C3 ?_) (by by_cases h:T<b.length<;>simp[h])) ?_)
 ·rintro⟨a,c⟩ ⟨j,f,e,hj,hf,hs⟩
  have e:a=(j:Int):=e
  subst e
  cases hx:b[j]? with
  |none=>
   have hl:=rQ hx
   right
   have:T=j:=by
    cases f with
    |zero=>exact hs.symm
    |succ f=>grind [Ja]
   grind
  |some x=>
   obtain⟨hl,hi⟩:=dH hx
   obtain⟨f,rfl⟩:∃g,f=g+1:=⟨f -1,AT⟩
   rw[Ja,hx]at hs
   simp only at hs
   have hw:=zb (n:=j) AT
   cases c with
   |true=>
    left
    rw[if_pos rfl]at hs
    exact⟨_,aM C3 (dT (aA AT (aM rfl rfl)) rfl),⟨j+1,f,hw,AT,AT,A_⟩,A_⟩
   |false=>
    rw[if_neg By]at hs
    by_cases h37:((x.toNat:Int)==37)=true
    ·left
     rw[if_pos h37]at hs
     exact⟨_,aM C3 (dT (aA AT (al By (aM A_ rfl))) rfl),⟨j+1,f,hw,AT,AT,hs⟩,A_⟩
    ·rw[if_neg h37]at hs
     by_cases hsp:(!spB x)=true
     ·right
      rw[if_pos hsp]at hs
      subst hs
      rw[if_pos hl]
      exact aM C3 (dT (aA AT (al By (al A_ (ah (xc _) (aM A_ rfl))))) rfl)
     ·left
      rw[if_neg hsp]at hs
      exact⟨_,aM C3 (dT (aA AT (al By (al A_ (ah (xc _) (al A_ rfl))))) rfl),⟨j+1,f,hw,AT,AT,hs⟩,A_⟩
 ·by_cases h:T<b.length
  ·simp_all
  ·rw[if_neg h,show T=b.length by omega];rfl
def u7(b:List UInt8)(j:Nat):Nat:=JM b b.length j
theorem ZT(hb:b.length<1152921504606846976)(B:Ba)(k:Nat)(last:Bool)(hk:k<=b.length):gU ⟨B,b,(k:Int),last⟩=some (⟨part b (k:Int) (u7 b k:Int)⟩,(decide ((u7 b k:Int)<(b.length:Int)))||last,⟨B,b,(u7 b k:Int),last⟩):=by
 have hT:=I6 (b:=b) b.length k hk
 generalize hTT:JM b b.length k=T at hT
 have hA:u7 b k=T:=hTT
 rw[hA]
 refine e7 (iter_eq (o:=(⟨B,b,(T:Int),last⟩:aq)) (fun(s:aq)=>∃j f:Nat,s=⟨B,b,(j:Int),last⟩/\j<=b.length/\b.length -j<=f/\JM b f j=T) (fun s=>b.length -s.at_.toNat) ⟨k,b.length,rfl,hk,AT,hTT⟩ C3 ?_) (aA ?_ rfl)
 ·rintro a ⟨j,f,rfl,hj,hf,hs⟩
  cases hx:b[j]? with
  |none=>
   have hl:=rQ hx
   right
   have:T=j:=by
    cases f with
    |zero=>exact hs.symm
    |succ f=>grind [JM]
   have hd:decide ((j:Int)<(b.length:Int))=false:=C3
   rw[this]
   simp only[hd,false_implies,QN,YS,aN,Bool.false_and]
   rfl
  |some x=>
   obtain⟨hl,hi⟩:=dH hx
   obtain⟨f,rfl⟩:∃g,f=g+1:=⟨f -1,AT⟩
   rw[JM,hx]at hs
   simp only at hs
   have hw:=zb (n:=j) AT
   have hd:decide ((j:Int)<(b.length:Int))=true:=C3
   have hrx:gJ (ix b (j:Int))=some (Yl x):=by rw[hi];exact K8 x
   by_cases hr:Yl x=true
   ·rw[if_pos hr]at hs
    left
    refine⟨_,aA (fun _=>⟨A_,A_⟩) (ah (by rw[hd,JF,hrx]) (aM A_ rfl)),⟨j+1,f,A_,AT,AT,hs⟩,A_⟩
   simp_all
 grind
end
def zt(last:Bool):Int:=if last then 10 else 6
def Pj(B:Ba)(b:List UInt8)(k:Int)(last:Bool):cL ⟨B,b,k,last⟩=some (zt last):=by cases last<;>rfl
def sj{B:Ba}{b:List UInt8}{j:Nat}{last:Bool}(h:b[j]? =none):bU ⟨B,b,(j:Int),last⟩=some (0,false):=by
 have:=rQ h
 exact aM A_ rfl
def fx{B:Ba}{b:List UInt8}{j:Nat}{last:Bool}{x:UInt8}(h:b[j]? =some x):bU ⟨B,b,(j:Int),last⟩=some (x,true):=by
 obtain⟨h1,h2⟩:=dH h
 exact al A_ (aA A_ A_)
def xY(last:Bool):zt last≠0:=by cases last<;>decide
def Z8{A:Type}(j n:Nat):(A×Nat)⊕Int->Prop
 |.inl r=>j<r.2/\r.2<=n
 |.inr e=>e≠0
def Z8.mono{A:Type}{j n:Nat}:∀{r:(A×Nat)⊕Int},Z8 (j+1) n r->Z8 j n r
 |.inl _,h=>⟨Nat.lt_of_succ_lt h.1,h.2⟩
 |.inr _,h=>h
def eJ(q:List UInt8×Int)(d:Int):List UInt8×Int:=if q.2<0 then(q.1,d)else(q.1++[ju (aC (aC (16*q.2)+d))],-1)
def oL(q:List UInt8×Int):List UInt8:=if q.2>=0 then q.1++[ju (aC (16*q.2))]else q.1
section
variable(b:List UInt8)(last:Bool)
def Gk:Nat->List UInt8×Int->Nat->(List UInt8×Nat)⊕Int
 |0,_,_=>.inr (zt last)
 |f+1,q,j=>match b[j]? with
  |none=>.inr (zt last)
  |some x=>if(x.toNat:Int)==62 then .inl (oL q,j+1)else if spB x then Gk f q (j+1)else if decide (Ii x<0)then .inr 11 else Gk f (eJ q (Ii x)) (j+1)
variable{b last}
def Hq(q:List UInt8×Int)(j:Nat):Prop:=q.1.length<=j/\-1<=q.2/\q.2<=15
def Eh{u:Bool}{o:List UInt8}(c:UInt8)(h:o.length+1<=room):aF ⟨u,true,⟨o⟩⟩ c=some (V5.mk,⟨true,true,⟨o++[c]⟩⟩):=aA rfl (aA h rfl)
def aaS{u:Bool}{o:List UInt8}(h:o.length<=room):bV ⟨u,true,⟨o⟩⟩=some (⟨o⟩,⟨u,false,⟨o⟩⟩):=aA ⟨rfl,h⟩ rfl
theorem B4:∀(f:Nat)(q:List UInt8×Int)(j:Nat),j<=b.length->Z8 j b.length (Gk b last f q j)
 |0,q,j,_=>xY last
 |f+1,q,j,hj=>by
  rw[Gk]
  cases hx:b[j]? with
  |none=>exact xY last
  |some x=>
   have hl:=(dH hx).1
   simp only
   by_cases h1:((x.toNat:Int)==62)=true
   ·rw[if_pos h1];exact⟨BY,A_⟩
   ·rw[if_neg h1]
    by_cases h2:spB x=true
    ·rw[if_pos h2];exact(B4 f q (j+1) AT).mono
    ·rw[if_neg h2]
     by_cases h3:(decide (Ii x<0))=true
     ·rw[if_pos h3];exact(by simp:(11:Int)≠0)
     ·rw[if_neg h3];exact(B4 f (eJ q (Ii x)) (j+1) AT).mono
def RB(r:(List UInt8×Nat)⊕Int)(x:aa×Int×aq):Prop:=match r with
 |.inl r=>x.1=⟨4,0,⟨r.1⟩,[]⟩/\x.2.1=0/\x.2.2.at_=(r.2:Int)
 |.inr e=>x.2.1=e
def abM(hb:b.length<1048576)(u:Bool)(k:Nat)(hk:k<=b.length):∃x,gb ⟨⟨u,true,⟨[]⟩⟩,b,(k:Int),last⟩=some x/\RB (Gk b last (b.length+1) ([],-1) k) x:=by
 have cg:room=140737488355328:=rfl
 generalize hT:Gk b last (b.length+1) ([],-1) k=T
 unfold gb
 refine dw (fun(s:Int×aq)=>∃(j f:Nat)(u:Bool)(o:List UInt8),s.2=⟨⟨u,true,⟨o⟩⟩,b,(j:Int),last⟩/\j<=b.length/\b.length -j+1<=f/\Hq (o,s.1) j/\Gk b last f (o,s.1) j=T) (fun s=>b.length -s.2.at_.toNat) (RB T) ⟨k,b.length+1,u,[],rfl,hk,AT,⟨Nat.zero_le _,A_,A_⟩,hT⟩ A_ ?_
 rintro⟨h,o2⟩ ⟨j,f,u,o,e,hj,hf,hq,hs⟩
 have e:o2=⟨⟨u,true,⟨o⟩⟩,b,(j:Int),last⟩:=e
 subst e
 obtain⟨f,rfl⟩:∃g,f=g+1:=⟨f -1,AT⟩
 obtain⟨q1,q2,q3⟩:=hq
 have q1:o.length<=j:=q1
 have q2:-1<=h:=q2
 have q3:h<=15:=q3
 rw[Gk]at hs
 cases hx:b[j]? with
 |none=>
  rw[hx]at hs
  refine⟨_,ah (sj hx) (aM rfl (ah (Pj ..) rfl)),?_⟩
  show RB T _
  rw[<-hs]
  exact rfl
 |some x=>
  obtain⟨hl,hi⟩:=dH hx
  rw[hx]at hs
  simp only at hs
  have hw:=zb (n:=j) AT
  have hm:b.length -(aC ((j:Int)+1)).toNat<b.length -(j:Int).toNat:=by rw[hw];omega
  by_cases h62:((x.toNat:Int)==62)=true
  ·rw[if_pos h62]at hs
   by_cases hh:h>=0
   ·refine⟨_,ah (fx hx) (al nT (ah (zM x) (dT (aM A_ (ah (Eh _ AT) (ah (aaS C3) rfl))) rfl))),?_⟩
    show RB T _
    rw[<-hs]
    exact⟨by show(⟨4,0,_,_⟩:aa)=_;unfold oL;grind,rfl,hw⟩
   ·refine⟨_,ah (fx hx) (al nT (ah (zM x) (dT (al A_ (aM h62 (ah (aaS AT) rfl))) rfl))),?_⟩
    show RB T _
    rw[<-hs]
    exact⟨by show(⟨4,0,_,_⟩:aa)=_;unfold oL;grind,rfl,hw⟩
  ·rw[if_neg h62]at hs
   have n62:¬((((x.toNat:Int)==62)&&(decide (h>=0)))=true):=by
    have:((x.toNat:Int)==62)=false:=by simpa using h62
    rw[this];simp
   by_cases hsp:spB x=true
   ·rw[if_pos hsp]at hs
    refine⟨_,ah (fx hx) (al nT (ah (zM x) (dT (al n62 (al h62 (ah (xc x) (aM hsp rfl)))) rfl))),⟨j+1,f,u,o,?_,AT,AT,⟨A_,q2,q3⟩,hs⟩,hm⟩
    grind
   ·rw[if_neg hsp]at hs
    by_cases hn:(decide (Ii x<0))=true
    ·rw[if_pos hn]at hs
     refine⟨_,ah (fx hx) (al nT (ah (zM x) (dT (al n62 (al h62 (ah (xc x) (al hsp (aM hn rfl))))) rfl))),?_⟩
     show RB T _
     rw[<-hs]
     exact rfl
    ·rw[if_neg hn]at hs
     have hx2:=W8 x
     by_cases hh:h<0
     ·refine⟨_,ah (fx hx) (al nT (ah (zM x) (dT (al n62 (al h62 (ah (xc x) (al hsp (al hn (aM A_ rfl)))))) rfl))),⟨j+1,f,u,o,?_,AT,AT,⟨A_,hx2.1,hx2.2⟩,?_⟩,hm⟩
      ·grind
      ·unfold eJ at hs
       grind
     ·refine⟨_,ah (fx hx) (al nT (ah (zM x) (dT (al n62 (al h62 (ah (xc x) (al hsp (al hn (al A_ (ah (Eh _ AT) rfl))))))) rfl))),⟨j+1,f,true,o++[ju (aC (aC (16*h)+Ii x))],?_,AT,AT,⟨?_,A_,A_⟩,?_⟩,hm⟩
      ·grind
      ·grind
      ·unfold eJ at hs
       grind
end
section
variable{b:List UInt8}{last:Bool}
end
end Go.AB
end
