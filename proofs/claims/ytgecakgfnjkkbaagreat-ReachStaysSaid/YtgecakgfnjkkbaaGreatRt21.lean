/- A part. -/
import Derived.Test.YtgecakgfnjkkbaaGreatRt20
import Derived.Shelf.SlSortCmp.WholeK
import Derived.Ground.SlsfProg
set_option linter.defProp false
set_option linter.unusedSimpArgs false
set_option linter.unusedVariables false
section
set_option maxRecDepth 16000
namespace Go.AB
open Go
open Go.Proofs.Tryz (prog)
attribute[-go_sem] Nat.add_zero mi cy bX cP bD bV
section
variable{s0 s:ae}{b:List UInt8}{most:Int}{B BR:Nat}{z:ZS}{Q:List AV->ae->Prop}
def R4(hS:qE s0 s b most B BR z)(hb:b.length<72057594037927936)(hz:ZI b most z)
 (hq:∀s' p q,qE s0 s' b most B BR (ny (ai b) z).2.2->((ny (ai b) z).2.2.e≠0->ptr p/\ptr q)->((ny (ai b) z).2.2.e=0->∃t d:HT,p=.ref t.B 0/\q=.ref d.B 0/\iq s' t/\iq s' d/\t.lens=(ny (ai b) z).1/\d.lens=(ny (ai b) z).2.1)->Q [p,q] s'):FN prog 242 [.ref B 0] s Q:=by
 have cg:room=140737488355328:=rfl
 refine FS 94 [⟨2,true,none⟩,⟨3,true,none⟩] 0xc3eec13a364c241a9b3a461a98049cd74217cda5821670c2a0dce998266a9aba8579cd3fcc65ec44ba623c159b5cc382bfe5f5b097c2732e8c60fc5f3a8c51f487ef5c92a0747f95e9b8fb330d462f939d283da95fafefebf932b1dcf53b56083d0876f6e65ba92a59ecde513fb61848a27f976f35bfdbd57d0c6996f1612f2e6b05951365270c8be06f3ba80e9fed23ae6772d17bd167b782657dd01c156f9c6552c62a4d724208ed620e4a2a62f8dd66608da67232810ac55a9c79f897009fa01d07cc8175493313125efe026bd12f3aa724ee49565df7c52a86331332f33fc30c7677b8e002bc5b8c142c72b453edd45757758a5d71fb210c28239c9e0c42b4381f03ce53be5e03476fc750eb6dfb7a1d391fee258f9f55803d6eafaa0c1e25ec5a2c1d3af07b76ac9ec2e91cfd98a78ce6723f439b30a577721efcd8edf40d8f5ed5269e9fbca9135115c3cd562594f181ca982d79efb4f7b90833c13d7d88437a2823687f0c9f543d62bdd1e0cc3eadd791254ac91e879b11348aa1b86cd83ac23a9ad54492b816855f74b13ea65388478b ?_
 refine Xe7 ?_
 have p5:(2:Int)^5=32:=B_
 have p4:(2:Int)^4=16:=B_
 have h1:=ep (b:=b) (n:=5) hz.1
 have h2:=ep (b:=b) (n:=5) h1.1
 have h3:=ep (b:=b) (n:=4) h2.1
 have hz1:ZI b most (aE (ai b) 5 z).2:=⟨h1.1,by rw[h1.2.2.2.2.1];exact hz.2⟩
 have hz2:ZI b most (aE (ai b) 5 (aE (ai b) 5 z).2).2:=⟨h2.1,by rw[h2.2.2.2.2.1];exact hz1.2⟩
 have hH:kR (ai b) z=((aE (ai b) 5 z).1+257,(aE (ai b) 5 (aE (ai b) 5 z).2).1+1,(aE (ai b) 4 (aE (ai b) 5 (aE (ai b) 5 z).2).2).1+4,if(aE (ai b) 5 z).1+257>286\/(aE (ai b) 5 (aE (ai b) 5 z).2).1+1>30 then(aE (ai b) 4 (aE (ai b) 5 (aE (ai b) 5 z).2).2).2.fail 11 else(aE (ai b) 4 (aE (ai b) 5 (aE (ai b) 5 z).2).2).2):=rfl
 have hHl:=Pd (b:=b) hz.1
 refine Ae hS hb (n:=5) B_ hz fun s1 hS1 q1 q2=>?_
 refine Xe7 ?_
 refine Ae hS1 hb (n:=5) B_ hz1 fun s2 hS2 q3 q4=>?_
 refine Xe7 ?_
 refine Ae hS2 hb (n:=4) B_ hz2 fun s3 hS3 q5 q6=>?_
 clear hS hS1 hS2 q1 q2 q3 q4 q5 q6
 rw[p5]at h1 h2
 rw[p4]at h3
 generalize aE (ai b) 4 (aE (ai b) 5 (aE (ai b) 5 z).2).2=k1 at*
 generalize aE (ai b) 5 (aE (ai b) 5 z).2=m1 at*
 generalize aE (ai b) 5 z=n1 at*
 have e1:aC (aC (n1.1+256)+1)=n1.1+257:=by rw[ao (n:=n1.1+256) AT AT,ao AT AT];omega
 have e2:aC (m1.1+1)=m1.1+1:=ao AT AT
 have e3:aC (k1.1+4)=k1.1+4:=ao AT AT
 refine Xh3 e1 e2 e3 ?_
 obtain⟨N,M,K,Z4,hN⟩:∃N M K Z4,kR (ai b) z=(N,M,K,Z4):=⟨_,_,_,_,rfl⟩
 rw[hN]at hH hHl
 injection hH with a1 hH
 injection hH with a2 hH
 injection hH with a3 a4
 rw[<-a1,<-a2]at*
 rw[<-a3]at*
 clear a1 a2 a3 e1 e2 e3 h1 h2 h3 hz1 hz2
 simp only at hHl
 refine(?fst:(∀s4,qE s0 s4 b most B BR Z4->(?G:ae->Prop) s4)->_) ?rest
 case fst=>
  intro rest
  refine⟨fun hc=>?_,fun hc=>?_⟩
  ·refine ya hS3 11 fun s4 hS4 _ _=>?_
   rw[if_pos z_]at a4
   rw[<-a4]at hS4
   refine Xh0 ?_
   exact rest s4 hS4
  ·rw[if_neg z_]at a4
   rw[<-a4]at hS3
   exact rest s3 hS3
 clear hS3 a4
 intro s4 hS4
 refine⟨AT,AT,AT,fun bo hbo=>?_⟩
 refine FE.app (zN (r:=sk) rfl) ?_
 have ho0:s0 bo=none:=by
  cases h:s0 bo with
  |none=>rfl
  |some o=>rw[hS4.sub _ _ h]at hbo;cases hbo
 have hoB:bo≠B:=fun e=>by subst e;rw[hS4.hB]at hbo;cases hbo
 have hoR:bo≠BR:=fun e=>by subst e;rw[hS4.hR]at hbo;cases hbo
 have hz4:ZI b most Z4:=⟨hHl.1,by rw[hHl.2.2.1];exact hz.2⟩
 have hK:(sk.length:Int)=19:=rfl
 have hL:part sk 0 K=sk.take K.toNat:=by
  unfold part
  rw[Int.sub_zero];rfl
 have hLb:∀x∈sk.take K.toNat,0<=x/\x<19:=fun x hx=>by
  have:∀x∈sk,0<=x/\x<19:=B_
  exact this x (List.mem_of_mem_take hx)
 have hLl:(sk.take K.toNat).length<=19:=by
  rw[List.length_take]
  have:sk.length=19:=rfl
  omega
 refine Xh0 ?_
 refine⟨⟨AT,AT,AT⟩,?_⟩
 rw[hL]
 have hdL:pO (ai b) z=z6 (ai b) (LP (ai b) (sk.take K.toNat) (List.replicate 19 0) Z4).1 (N+M).toNat ((N+M).toNat+1) [] (lG (LP (ai b) (sk.take K.toNat) (List.replicate 19 0) Z4).1 (LP (ai b) (sk.take K.toNat) (List.replicate 19 0) Z4).2):=by
  unfold pO
  rw[hN]
 have hOl:=N8 (b:=b) (sk.take K.toNat) (List.replicate 19 0) Z4 hz4.1
 generalize hO:LP (ai b) (sk.take K.toNat) (List.replicate 19 0) Z4=O at hdL hOl
 generalize sk.take K.toNat=L at hLb hLl hO
 clear hL hK
 refine ja L.length (fun k τ=>∃(S:ae)(of:List Int)(Zk:ZS),qE s0 S b most B BR Zk/\ZI b most Zk/\S bo=some (.cells (flat of))/\of.length=19/\LP (ai b) (L.drop k) of Zk=O/\τ=⟨[(0,.ref B 0),(4,.int .i64 N),(5,.int .i64 M),(7,.arr bo 0 19 19),(41,.sl false 1 L.length (flat L)),(42,.int .i64 L.length),(43,.int .i64 k)],[],S⟩) AT ?_ (fun k hk J τ hτ hJ=>?_) (fun J τ hτ=>?_)
 ·exact⟨_,List.replicate 19 0,Z4,hS4.off ho0 hoB hoR (fun y hy=>af hy),hz4,aY,rfl,hO,rfl⟩
 ·obtain⟨S,of,Zk,hS,hzk,hSo,hof,hOk,rfl⟩:=hτ
  have hlt:decide ((k:Int)<(L.length:Int))=true:=C_
  have hw:aC ((k:Int)+1)=((k+1:Nat):Int):=E_
  have hx:=hLb (ix L (k:Int)) Xd5
  rw[List.drop_eq_getElem_cons hk,LP,<-gh hk]at hOk
  refine Xe5 hlt ?_
  generalize ix L (k:Int)=x at hx hOk
  refine⟨⟨AT,AT⟩,?_⟩
  have hn:=ep (b:=b) (n:=3) hzk.1
  refine Ae hS hb (n:=3) B_ hzk fun S2 hS2 _ Q1=>?_
  have aj8:S2 bo=some (.cells (flat of)):=(Q1 bo hoB hoR).trans hSo
  have C7:setAt (flat of) (x.toNat*1) [.int .i64 (aE (ai b) 3 Zk).1]=flat (JU of x (aE (ai b) 3 Zk).1):=KY of x (aE (ai b) 3 Zk).1 1 rfl
  have dv:=(HC of (n:=1) rfl (j:=x) hx.1 AT).1
  simp -implicitDefEqProofs only[go_sem,seval,aj8,C7,hw,bL]
  refine⟨⟨AT,AT⟩,dv,?_⟩
  exact hJ _ ⟨_,JU of x (aE (ai b) 3 Zk).1,(aE (ai b) 3 Zk).2,hS2.off ho0 hoB hoR (fun y hy=>af hy),⟨hn.1,by rw[hn.2.2.2.2.1];exact hzk.2⟩,aY,by rw[HM of hx.1 AT];exact hof,hOk,rfl⟩
 ·obtain⟨S,of,Zk,hS,hzk,hSo,hof,hOk,rfl⟩:=hτ
  have hlt:decide ((L.length:Int)<(L.length:Int))=false:=BY
  rw[List.drop_eq_nil_of_le (Nat.le_refl _),LP]at hOk
  subst hOk
  refine Xe5 hlt ?_
  refine CZ (l:=of) hSo hof B_ ?_
  have hS5:qE s0 (S.del bo) b most B BR Zk:=hS.off ho0 hoB hoR (fun y hy=>by unfold ae.del;rw[if_neg hy])
  refine Xe7 ?_
  simp only at hdL hOl
  have hc:=x4 of Zk
  have hz6:ZI b most (lG of Zk):=⟨by rw[hc.1];exact hzk.1,by rw[hc.2.1];exact hzk.2⟩
  have hnm:aC (N+M)=(((N+M).toNat:Nat):Int):=E_
  refine rB hS5 hof (fun S6 hS6 he ht=>?_) (fun S6 t hS6 he ht hx hl=>?_)
  ·refine Xe7 ?_
   refine X8 hS6 he _ ?_
   have hB:=hS6.hB
   rw[UJ he]at hdL
   have hdT:ny (ai b) z=([],[],lG of Zk):=by
    unfold ny
    rw[hdL]
    exact if_pos he
   rw[hdT]at hq
   have hcc:((lG of Zk).e !=0)=true:=G_
   refine Xf1 hB hcc ?_
   exact hq S6 _ _ hS6 (fun _=>⟨.inl rfl,.inl rfl⟩) (fun e=>absurd e he)
  ·refine Xe5 hnm ?_
   refine X9 hS6 hb hz6 hx AT fun S7 o hS7 ho=>?_
   rw[hl]at ho hS7
   rw[<-hdL]at ho hS7
   have hB:=hS7.hB
   have hdl:=Pe (b:=b) hz.1
   rw[hN]at hdl
   generalize hD:pO (ai b) z=D at hdL hdl ho hS7 hB
   refine Xg6 hB ?_
   refine⟨fun he=>?_,fun he=>?_⟩
   ·have he:D.2.e≠0:=G_
    have hdT:ny (ai b) z=([],[],D.2):=by
     unfold ny
     rw[hD]
     exact if_pos he
    rw[hdT]at hq
    exact hq S7 _ _ hS7 (fun _=>⟨.inl rfl,.inl rfl⟩) (fun e=>absurd e he)
   ·have he:D.2.e=0:=G_
    have ho:=ho he
    obtain⟨h1,h2⟩:=hdl.2.2.2 he
    simp only at h2
    have hdT:ny (ai b) z=(D.1.take N.toNat,D.1.drop N.toNat,lG (D.1.drop N.toNat) (lG (D.1.take N.toNat) (if D.1.getD 256 0=0 then D.2.fail 11 else D.2))):=by
     unfold ny
     rw[hD,hN]
     exact if_neg y_
    rw[hdT]at hq
    subst ho
    have hix:ix D.1 256=D.1.getD 256 0:=by
     have h3:256<D.1.length:=AT
     have:=gh h3
     rw[List.getD_eq_getElem?_getD,List.getElem?_eq_getElem h3]
     exact this
    have hp1:part D.1 0 N=D.1.take N.toNat:=by
     unfold part
     rw[Int.sub_zero];rfl
    have hp2:part D.1 N (D.1.length:Int)=D.1.drop N.toNat:=by
     unfold part
     rw[List.take_of_length_le N_]
    rw[hix]
    refine⟨⟨AT,AT⟩,?_⟩
    refine⟨fun h=>ya hS7 11 fun S8 hS8 _ _=>?_,fun h=>?_⟩
    all_goals first
     |have hS8:qE s0 S7 b most B BR (if D.1.getD 256 0=0 then D.2.fail 11 else D.2):=by rw[if_neg J_];exact hS7
     |simp -implicitDefEqProofs only[go_sem,Nat.reduceBEq,Nat.reduceAdd,Nat.reduceMul,Nat.reduceLeDiff,Nat.reduceEqDiff,Nat.reduceBNe,UInt8.reduceToNat,UInt32.reduceToNat,bL]
      replace hS8:qE s0 S8 b most B BR (if D.1.getD 256 0=0 then D.2.fail 11 else D.2):=by rw[if_pos J_];exact hS8
    all_goals
     refine⟨⟨AT,AT,AT⟩,⟨AT,AT,AT⟩,?_⟩
     rw[hp1,hp2]
     generalize(if D.1.getD 256 0=0 then D.2.fail 11 else D.2)=Z7 at*
     have c2:=x4 (D.1.drop N.toNat) (lG (D.1.take N.toNat) Z7)
     refine rB hS8 rfl (fun S9 hS9 he9 ht9=>?_) (fun S9 t1 hS9 he9 ht9 hx9 hl9=>?_)
     ·refine Xe7 ?_
      refine rB hS9 rfl (fun S10 QY Nx _=>?_) (fun S10 t2 QY Nx _ _ _=>absurd (c2.2.2 Nx).1 he9)
      refine Xe7 ?_
      exact hq S10 _ _ QY (fun _=>⟨.inl rfl,.inl rfl⟩) (fun e=>absurd e Nx)
     ·refine Xe7 ?_
      refine rB hS9 rfl (fun S10 QY Nx _=>?_) (fun S10 t2 QY Nx akD akI akk=>?_)
      ·refine Xe7 ?_
       exact hq S10 _ _ QY (fun _=>⟨.inr ⟨_,rfl⟩,.inl rfl⟩) (fun e=>absurd e Nx)
      ·refine Xe7 ?_
       exact hq S10 _ _ QY (fun e=>absurd Nx e) (fun _=>⟨t1,t2,rfl,rfl,akD t1 hx9,akI,hl9,akk⟩)
def SC(hS:qE s0 s b most B BR z)(hb:b.length<72057594037927936)(hM:most<=16777216)(hz:ZI b most z)(hq:∀s',qE s0 s' b most B BR (zr b most z).2->Q [.bool (zr b most z).1] s'):FN prog 207 [.ref B 0] s Q:=by
 refine FS 74 [⟨2,true,none⟩] 0x582e9f67a1f52d68c40cc26821e6f435fed01953707bdf2ccdf09171fad252e18ea2067aa11572ff0d8924e2549fba739eb2440e8ed3c38500bb2c8ff0ab8f50b2a7eb3d338fef1862f463009eafb4224940454d785de5835bdf0bfdda1a7a78502e29e0e2208d1647a66ba4e81a739f380e25fe39901a120d1b9726499fdb5f8cd6457470a59e729d77a341e54bbcc111c19c5e5e574fe4c474562c43eb818704db25f974af861e4536e85ceb5f69f803f9beb909f2ac38594395f31ce0cc1c5f0cb4a4328118ac0e2b0c5cb527081146793e47e7f5b7a225836a3021fa59f50863679debd691cce2d9a6d9dd2dce7da4dafa12bb41e42ad0210be175a6c178824473a ?_
 refine Xe7 ?_
 have p1:(2:Int)^1=2:=B_
 have p2:(2:Int)^2=4:=B_
 have h1:=ep (b:=b) (n:=1) hz.1
 have h2:=ep (b:=b) (n:=2) h1.1
 have hz1:ZI b most (aE (ai b) 1 z).2:=⟨h1.1,by rw[h1.2.2.2.2.1];exact hz.2⟩
 have hz2:ZI b most (aE (ai b) 2 (aE (ai b) 1 z).2).2:=⟨h2.1,by rw[h2.2.2.2.2.1];exact hz1.2⟩
 have hE:∀Zf,(if(aE (ai b) 2 (aE (ai b) 1 z).2).2.e≠0 then(aE (ai b) 2 (aE (ai b) 1 z).2).2 else if(aE (ai b) 2 (aE (ai b) 1 z).2).1=0 then EB (ai b) most (aE (ai b) 2 (aE (ai b) 1 z).2).2 else if(aE (ai b) 2 (aE (ai b) 1 z).2).1=1 then vy (ai b) most nC nz (8*b.length+2) (aE (ai b) 2 (aE (ai b) 1 z).2).2 else if(aE (ai b) 2 (aE (ai b) 1 z).2).1=2 then KH b most (aE (ai b) 2 (aE (ai b) 1 z).2).2 else(aE (ai b) 2 (aE (ai b) 1 z).2).2.fail 11)=Zf->zr b most z=(decide ((aE (ai b) 1 z).1=1)||decide (Zf.e≠0),Zf):=by rintro _ rfl;rfl
 refine Ae hS hb (n:=1) B_ hz fun s1 hS1 _ _=>?_
 refine Xe7 ?_
 refine Ae hS1 hb (n:=2) B_ hz1 fun s2 hS2 _ _=>?_
 clear hS hS1 h1 hz1
 generalize aE (ai b) 1 z=n1 at*
 generalize aE (ai b) 2 n1.2=k at*
 have hB2:=hS2.hB
 refine Xe5 hB2 ?_
 have hq2:∀Zf,(if k.2.e≠0 then k.2 else if k.1=0 then EB (ai b) most k.2 else if k.1=1 then vy (ai b) most nC nz (8*b.length+2) k.2 else if k.1=2 then KH b most k.2 else k.2.fail 11)=Zf->∀s',qE s0 s' b most B BR Zf->Q [.bool (n1.1==1||Zf.e !=0)] s':=fun Zf h s' hs=>by
  have e1:(Zf.e !=0)=decide (Zf.e≠0):=by rw[Bool.eq_iff_iff];simp
  have e2:(n1.1==1)=decide (n1.1=1):=rfl
  rw[hE Zf h]at hq
  rw[e1,e2]
  exact hq s' hs
 clear hE hq
 refine⟨fun he=>?_,fun he=>⟨fun h0=>?_,fun h0=>⟨fun h1=>?_,fun h1=>⟨fun h2=>?_,fun h2=>?_⟩⟩⟩⟩
 ·exact hq2 _ (if_pos G_) _ hS2
 ·have he:¬k.2.e≠0:=G_
  refine RW hS2 hb hM hz2 fun S hS=>?_
  have hB:=hS.hB
  refine Xe5 hB ?_
  exact hq2 _ (by rw[if_neg he,if_pos Li]) _ hS
 ·have he:¬k.2.e≠0:=G_
  have h3:=abW
  refine FE.app abV ?_
  refine Xe7 ?_
  have he0:k.2.e=0:=G_
  have kL:lG nC k.2=k.2:=Xd7
  have kD:lG nz k.2=k.2:=Xd7
  refine rB hS2 tF (fun S _ he2 _=>absurd he0 (by rw[kL]at he2;exact he2)) (fun S t hS _ _ hx hl=>?_)
  rw[kL]at hS
  refine Xe7 ?_
  refine rB hS (show nz.length=30 from rfl) (fun S _ he2 _=>absurd he0 (by rw[kD]at he2;exact he2)) (fun S4 d hS4 _ hx2 hd hld=>?_)
  rw[kD]at hS4
  refine Xe7 ?_
  refine Ky hS4 hb hM hz2 (hx2 t hx) hd fun S5 hS5=>?_
  have hB:=hS5.hB
  refine Xe5 hB ?_
  refine hq2 _ ?_ _ hS5
  rw[if_neg he,if_neg Li,if_pos Q_,hl,hld]
 ·have he:¬k.2.e≠0:=G_
  have ph:∀S,qE s0 S b most B BR (KH b most k.2)->Q [.bool (n1.1==1||(KH b most k.2).e !=0)] S:=fun S h=>hq2 _ (by rw[if_neg he,if_neg Li,if_neg Q_,if_pos Ux]) _ h
  refine R4 hS2 hb hz2 fun S p q hS hp ht=>?_
  have hZ:=(Pf hz2).1
  have e0:KH b most k.2=vy (ai b) most (ny (ai b) k.2).1 (ny (ai b) k.2).2.1 (8*b.length+2) (ny (ai b) k.2).2.2:=rfl
  rw[e0]at ph
  clear e0 hq2
  generalize ny (ai b) k.2=T at hZ ph hS hp ht
  obtain⟨T1,T2,T3⟩:=T
  dsimp only at hZ ph hS hp ht
  by_cases hd:T3.e=0
  ·obtain⟨t,d,rfl,rfl,h3,h4,h5,h6⟩:=ht hd
   subst h5 h6
   refine Xe7 ?_
   refine Ky hS hb hM hZ h3 h4 fun S5 hS5=>?_
   have hB:=hS5.hB
   refine Xe5 hB ?_
   exact ph _ hS5
  ·rw[abH hd]at ph
   have hB:=hS.hB
   obtain⟨hp1,hp2⟩:=hp hd
   have hp3:=hp1
   have hp4:=hp2
   rcases hp1 with rfl|⟨x,rfl⟩<;>rcases hp2 with rfl|⟨y,rfl⟩
   all_goals
    refine Xe7 ?_
    refine W0 hS hd hp3 hp4 ?_
    refine Xe5 hB ?_
    exact ph _ hS
 ·have he:¬k.2.e≠0:=G_
  refine ya hS2 11 fun S hS _ _=>?_
  have hB:=hS.hB
  refine Xe5 hB ?_
  exact hq2 _ (by rw[if_neg he,if_neg Li,if_neg Q_,if_neg Ux]) _ hS
end
def muI(b:List UInt8)(BR:Nat)(τ:St):Nat:=match τ.s BR with|some (.cells (.int .i64 n::_))=>(8*b.length -n).toNat|_=>0
def aco{b:List UInt8}{most:Int}{s:ae}{ow:Bool}{Q:List AV->ae->Prop}(hb:b.length<140737488355328)(hm1:-9223372036854775808<=most)(hm2:most<=9223372036854775807)(hq:∀s' w,Sub s s'->Q [.sl w 1 (rW b most).1.length (flat (rW b most).1),.int .i64 (rW b most).2.1,.int .i64 (rW b most).2.2] s'):FN prog 172 [.sl ow 1 b.length (flat b),.int .i64 most] s Q:=by
 have cg:room=140737488355328:=rfl
 refine FS 46 [⟨4,true,none⟩,⟨5,true,none⟩,⟨6,true,none⟩] 0xb74af5e77c9cf87ab6c44c3623030d381037e6b7c6bee03bc506c88aa883f5abf7293dd4da46d87796d22ee74520ab461f7cbb0667e5459ea8d40142f448a9e29b8583f621cc2fcc7dd8ee147f231958542a1a52831b363a38591da505a9beb9ab34c4389a1203c18552f0729f2ca207de167c8d9ea13e975eb95ba24c96b0315b26ad23f5b2e34c60bfd1e92f9b09cdb4f304a2bf765fba1d8658687d04862d7af4a79d8cac5e60b005b200798d0f2e49c ?_
 refine Xe7 ?_
 refine⟨fun hc=>?_,fun hc=>?_⟩
 ·have e:rW b most=([],0,2):=if_pos I_
  rw[e]at hq
  exact hq s _ fun _ _ h=>h
 ·have hc:¬(most<0\/most>16777216):=I_
  refine YQ AT fun BR hBR=>?_
  refine Xe7 ?_
  intro B hB
  have hne:B≠BR:=fun e=>by subst e;rw[aY]at hB;cases hB
  have hB0:s B=none:=by rw[af hne]at hB;exact hB
  have hS:qE s ((s.set BR (.cells [.int .i64 0,.bool false,.bool true,.sl false 1 b.length (flat b)])).set B (.cells [.ref BR 0,.int .i64 0,.sl true 1 0 [],.int .i64 most])) b most B BR ⟨0,0,[]⟩:=by
   refine⟨hB0,hBR,hne,fun x o hx=>?_,aY,(af hne.symm).trans aY⟩
   have h1:x≠B:=fun e=>by subst e;rw[hB0]at hx;cases hx
   have h2:x≠BR:=fun e=>by subst e;rw[hBR]at hx;cases hx
   rw[af h1,af h2];exact hx
  have hZ0:ZI b most ⟨0,0,[]⟩:=⟨Nat.zero_le _,C_⟩
  refine⟨fun τ=>∃S Z f,qE s S b most B BR Z/\ZI b most Z/\8*b.length+2<=f+Z.at_/\zM b most f Z=zM b most (8*b.length+2) ⟨0,0,[]⟩/\τ=⟨[(7,.ref B 0)],[],S⟩,muI b BR,⟨_,_,_,hS,hZ0,BY,rfl,rfl⟩,?_⟩
  clear hS hZ0 hB hBR hB0
  rintro τ ⟨S,Z,f,hS,hZ,hf,hI,rfl⟩
  obtain⟨f,rfl⟩:∃g,f=g+1:=⟨f -1,by have:=hZ.1;omega⟩
  rw[zM]at hI
  have hk:=OU hZ
  have hV:rW b most=if(zM b most (8*b.length+2) ⟨0,0,[]⟩).e≠0 then([],0,(zM b most (8*b.length+2) ⟨0,0,[]⟩).e)else((zM b most (8*b.length+2) ⟨0,0,[]⟩).out,((((zM b most (8*b.length+2) ⟨0,0,[]⟩).at_+7)/8:Nat):Int),0):=if_neg hc
  have hmu:∀S1 Z1 e,qE s S1 b most B BR Z1->muI b BR ⟨e,[],S1⟩=8*b.length -Z1.at_:=fun S1 Z1 e h=>by
   unfold muI
   dsimp only
   rw[h.hR]
   show((8*b.length:Nat) -(Z1.at_:Int):Int).toNat=_
   omega
  have m0:=hmu S Z [(7,.ref B 0)] hS
  refine Xe7 ?_
  refine SC hS AT AT hZ fun S2 hS2=>?_
  refine Xe7 ?_
  generalize hL:zM b most (8*b.length+2) ⟨0,0,[]⟩=L at*
  generalize zr b most Z=W at*
  obtain⟨w,Z2⟩:=W
  dsimp only at hI hk hS2
  cases w with
  |false=>
   have h3:=hk.2.2 rfl
   rw[if_neg Bool.false_ne_true]at hI
   have m1:=hmu S2 Z2 [(7,.ref B 0)] hS2
   have h4:=hk.1.1
   refine Xe7 ?_
   refine⟨⟨_,_,_,hS2,hk.1,AT,hI,rfl⟩,?_⟩
   rw[m0,m1];omega
  |true=>
   rw[if_pos rfl]at hI
   subst hI
   have hB:=hS2.hB
   have hR:=hS2.hR
   refine Xe5 hB ?_
   refine⟨fun he=>?_,fun he=>?_⟩
   ·rw[if_pos G_]at hV
    rw[hV]at hq
    exact hq S2 _ hS2.sub
   ·rw[if_neg G_]at hV
    rw[hV]at hq
    have h4:=hk.1.1
    have hA:jB (HG b Z2).Reader=some (Z2.at_:Int):=by
     unfold jB bP
     simp only[Bool.false_or,Bool.not_true,aL,Bool.false_eq_true,if_false]
    refine⟨[.int .i64 (Z2.at_:Int)],rfl,xP hR hA,?_⟩
    have e1:aC ((Z2.at_:Int)+7)=(Z2.at_:Int)+7:=ao AT AT
    have e2:aC (((Z2.at_:Int)+7).tdiv 8)=(((Z2.at_+7)/8:Nat):Int):=by
     have e3:((Z2.at_:Int)+7).tdiv 8=(((Z2.at_+7)/8:Nat):Int):=by rw[Int.tdiv_eq_ediv_of_nonneg AT];omega
     rw[e3,ao AT AT]
    refine Xh4 e1 e2 ?_
    exact⟨B_,hq S2 _ hS2.sub⟩
def Lk:IC:=dec 0x41461efc4af05831f5902e78a78bc
def Ll:IC:=dec 0x1ffeff84487a5baf469313ebb7bd14444ed1cb8a9be46f2ddaf5540879abf4701b2efa8d210e18eec983a71bfa6fdd40ffed510f6d6d13e440477350b5fbafa969f1773c6c265e40d8043086e1bdda1fd553eee9aba7582694510cea225b7d7218a83b4fc553d34793dcc6047fda71c3fb2ec6550af362998ad53c860a8e61f3e2b1e7a1e9cbb4a7c9de69abd49cedef5e121434f2c527bdb4f73822c28999b4ac3f8ff475f96e86998574d52967db13394cf5619c71f302f6c1a8d917b1e849538ee425e8ee939f6dee8aa3a03390c09e6ceb209c8ce1c53912007992312bea7e2bd848956ce3636c775f16a91b5c7a63cd7f2c466d1b839e7d074a627
def Ek:List jr:=[⟨4,false,some (1,false)⟩,⟨5,false,some (1,false)⟩,⟨6,false,some (1,false)⟩]
def X6:TF prog 138 55 Ek Lk 170 [4,5,6] Ll=true:=By
def Lj:IC:=dec 0x311215904b49e9dc64f8d5ba9932b969f247130593e8f59dbc9441ad
def Uz:ey prog 170 14 [] Lj=true:=By
section
variable{b:List UInt8}{most:Int}
def Py:∀(f:Nat)(Z:ZS),ZI b most Z->ZI b most (zM b most f Z)
 |0,_,h=>h
 |f+1,Z,h=>by
  rw[zM]
  have hk:=(OU h).1
  split
  ·exact hk
  ·exact Py f _ hk
def XT:(rW b most).1.length<=16777216/\0<=(rW b most).2.1/\(rW b most).2.1<=b.length:=by
 unfold rW
 split
 ·exact⟨Nat.zero_le _,Int.le_refl _,by show(0:Int)<=_;omega⟩
 ·rename_i hc
  have h:=Py (b:=b) (most:=most) (8*b.length+2) ⟨0,0,[]⟩ ⟨Nat.zero_le _,C_⟩
  generalize zM b most (8*b.length+2) ⟨0,0,[]⟩=Z at h
  obtain⟨h1,h2⟩:=h
  dsimp only
  split
  ·exact⟨Nat.zero_le _,Int.le_refl _,by show(0:Int)<=_;omega⟩
  ·dsimp only
   omega
def XE(h:TV b=0):2<=b.length:=by
 unfold TV at h
 split at h
 ·simp
 ·cases h
end
structure MD(s S:ae)(b4 b5 b6:Nat)(l:List UInt8)(n e:Int):Prop where
 n4:s b4=none
 n5:s b5=none
 n6:s b6=none
 d45:b4≠b5
 d46:b4≠b6
 d56:b5≠b6
 sub:Sub s S
 h4:∃w,S b4=some (.cells [.sl w 1 l.length (flat l)])
 h5:S b5=some (.cells [.int .i64 n])
 h6:S b6=some (.cells [.int .i64 e])
section
variable{s S S':ae}{b4 b5 b6:Nat}{l:List UInt8}{n e:Int}{Q:List AV->ae->Prop}
def MD.F4(h:MD s S b4 b5 b6 l n e)(e':Int):MD s (S.set b6 (.cells [.int .i64 e'])) b4 b5 b6 l n e':=
 ⟨h.n4,h.n5,h.n6,h.d45,h.d46,h.d56,fun x o hx=>by
   have:x≠b6:=fun e=>by subst e;rw[h.n6]at hx;cases hx
   rw[af this];exact h.sub x o hx,by rw[af h.d46];exact h.h4,by rw[af h.d56];exact h.h5,aY⟩
def MD.F3(h:MD s S b4 b5 b6 l n e)(n':Int):MD s (S.set b5 (.cells [.int .i64 n'])) b4 b5 b6 l n' e:=
 ⟨h.n4,h.n5,h.n6,h.d45,h.d46,h.d56,fun x o hx=>by
   have:x≠b5:=fun e=>by subst e;rw[h.n5]at hx;cases hx
   rw[af this];exact h.sub x o hx,by rw[af h.d45];exact h.h4,aY,by rw[af h.d56.symm];exact h.h6⟩
def MD.JF(h:MD s S b4 b5 b6 l n e)(w:Bool)(l':List UInt8):MD s (S.set b4 (.cells [.sl w 1 l'.length (flat l')])) b4 b5 b6 l' n e:=
 ⟨h.n4,h.n5,h.n6,h.d45,h.d46,h.d56,fun x o hx=>by
   have:x≠b4:=fun e=>by subst e;rw[h.n4]at hx;cases hx
   rw[af this];exact h.sub x o hx,⟨w,aY⟩,by rw[af h.d45.symm];exact h.h5,by rw[af h.d46.symm];exact h.h6⟩
def MD.more(h:MD s S b4 b5 b6 l n e)(hs:Sub S S'):MD s S' b4 b5 b6 l n e:=⟨h.n4,h.n5,h.n6,h.d45,h.d46,h.d56,fun x o hx=>hs _ _ (h.sub x o hx),by obtain⟨w,h4⟩:=h.h4;exact⟨w,hs _ _ h4⟩,hs _ _ h.h5,hs _ _ h.h6⟩
def Ym(h:MD s S b4 b5 b6 l n e)(hq:∀s',MD s s' b4 b5 b6 (if e≠0 then[]else l) (if e≠0 then 0 else n) e->Q [] s'):FND prog 170 [.ref b4 0,.ref b5 0,.ref b6 0] S Q:=by
 refine FND.of (kJ mix) Uz rfl (Nat.le_of_ble_eq_true rfl) ?_
 rw[Lj]
 refine Xf9 ?_
 obtain⟨w,h4⟩:=h.h4
 have h5:=h.h5
 have h6:=h.h6
 simp -implicitDefEqProofs only[go_sem,seval,h6,h4,h5,af h.d45,af h.d45.symm,bL]
 refine⟨fun he=>?_,fun he=>?_⟩
 ·have he:e≠0:=G_
  rw[if_pos he,if_pos he]at hq
  exact hq _ ((h.JF true []).F3 0)
 ·have he:¬e≠0:=G_
  rw[if_neg he,if_neg he]at hq
  exact hq _ h
end
def ad8{b:List UInt8}{most:Int}{s:ae}{ow:Bool}{Q:List AV->ae->Prop}(hb:b.length<140737488355328)(hm1:-9223372036854775808<=most)(hm2:most<=9223372036854775807)(hq:∀s',Sub s s'->Q [.sl false 1 (s9 b most).1.length (flat (s9 b most).1),.int .i64 (s9 b most).2.1,.int .i64 (s9 b most).2.2] s'):FN prog 138 [.sl ow 1 b.length (flat b),.int .i64 most] s Q:=by
 refine FN.ofD (kJ mix) X6 rfl (Nat.le_of_ble_eq_true rfl) ?_
 rw[Lk]
 refine Xf9 ?_
 refine Xe7 ?_
 intro b4 n4 b5 n5 b6 n6
 refine⟨[b4,b5,b6],rfl,?_⟩
 have d45:b4≠b5:=fun e=>by subst e;rw[aY]at n5;cases n5
 have d56:b5≠b6:=fun e=>by subst e;rw[aY]at n6;cases n6
 rw[af d56.symm]at n6
 have d46:b4≠b6:=fun e=>by subst e;rw[aY]at n6;cases n6
 rw[af d46.symm]at n6
 rw[af d45.symm]at n5
 have hU:MD s (((s.set b4 (.cells [.sl true 1 0 []])).set b5 (.cells [.int .i64 0])).set b6 (.cells [.int .i64 0])) b4 b5 b6 [] 0 0:=by
  refine⟨n4,n5,n6,d45,d46,d56,fun x o hx=>?_,⟨true,by rw[af d46,af d45,aY];rfl⟩,by rw[af d56,aY],aY⟩
  have h1:x≠b4:=fun e=>by subst e;rw[n4]at hx;cases hx
  have h2:x≠b5:=fun e=>by subst e;rw[n5]at hx;cases hx
  have h3:x≠b6:=fun e=>by subst e;rw[n6]at hx;cases hx
  rw[af h3,af h2,af h1];exact hx
 generalize((s.set b4 (.cells [.sl true 1 0 []])).set b5 (.cells [.int .i64 0])).set b6 (.cells [.int .i64 0])=S at hU⊢
 clear n4 n5 n6
 have fin:∀(S:ae)(l:List UInt8)(n e:Int),MD s S b4 b5 b6 l n e->s9 b most=(if e≠0 then[]else l,if e≠0 then 0 else n,e)->YX prog 170 [b4,b5,b6] Ek Q .ret ⟨[(4,.ref b4 0),(5,.ref b5 0),(6,.ref b6 0)],[],S⟩:=by
  intro S l n e h hv
  refine Ym h fun s' h'=>?_
  obtain⟨w,h4⟩:=h'.h4
  have h5:=h'.h5
  have h6:=h'.h6
  rw[hv]at hq
  rw[Ek]
  refine Xf3 h4 h5 h6 ?_
  exact hq s' h'.sub
 have h5:=hU.h5
 have h6:=hU.h6
 obtain⟨w,h4⟩:=hU.h4
 rw[Ll]
 refine Xf9 ?_
 simp -implicitDefEqProofs only[go_sem,seval,h4,h5,h6,af d45,af d45.symm,af d46,af d46.symm,af d56,af d56.symm,bL]
 refine⟨fun hc=>fin _ [] 0 2 (((hU.JF true []).F3 0).F4 2) (by rw[s9,if_pos I_];rfl),fun hc=>?_⟩
 have hc:¬(most<0\/most>16777216):=I_
 refine FE.app (Gi (ahu b)) ?_
 simp -implicitDefEqProofs only[go_sem,Nat.reduceBEq,Nat.reduceAdd,Nat.reduceMul,Nat.reduceLeDiff,Nat.reduceEqDiff,Nat.reduceBNe,UInt8.reduceToNat,UInt32.reduceToNat,h4,h5,h6,af d45,af d45.symm,af d46,af d46.symm,af d56,af d56.symm,bL]
 refine⟨fun he=>?_,fun he=>?_⟩
 ·have he:TV b≠0:=G_
  exact fin _ [] 0 (TV b) ((((hU.F4 _).JF true []).F3 0).F4 (TV b)) (by rw[s9,if_neg hc,if_pos he,if_pos he,if_pos he])
 have he:TV b=0:=G_
 have hl:=XE he
 have hU1:=hU.F4 (TV b)
 generalize S.set b6 (.cells [.int .i64 (TV b)])=S1 at hU1⊢
 clear h4 h5 h6 hU
 have hp:part b 2 (b.length:Int)=b.drop 2:=by
  unfold part
  rw[List.take_of_length_le N_];rfl
 rw[hp]
 refine⟨⟨AT,AT⟩,?_⟩
 have hvl:=XT (b:=b.drop 2) (most:=most)
 rw[List.length_drop]at hvl
 have hv:s9 b most=if(rW (b.drop 2) most).2.2≠0 then([],0,(rW (b.drop 2) most).2.2)else if(b.length:Int)<(rW (b.drop 2) most).2.1+6 then([],0,10)else if(b.drop ((rW (b.drop 2) most).2.1+2).toNat).take 4≠adB (OG (rW (b.drop 2) most).1)then([],0,12)else((rW (b.drop 2) most).1,(rW (b.drop 2) most).2.1+6,0):=by rw[s9,if_neg hc,if_neg G_]
 refine aco N_ hm1 hm2 fun S2 w2 hs2=>?_
 have hU2:=hU1.more hs2
 clear hU1 hs2 hp
 generalize rW (b.drop 2) most=r at hv hvl⊢
 obtain⟨l,m,e⟩:=r
 dsimp only at hv hvl
 have h5:=hU2.h5
 have h6:=hU2.h6
 obtain⟨w3,h4⟩:=hU2.h4
 have e1:aC (m+2)=m+2:=ao AT AT
 have e2:aC (m+2+4)=m+2+4:=ao AT AT
 have e3:aC ((b.length:Int) -(m+2))=(b.length:Int) -(m+2):=ao AT AT
 simp -implicitDefEqProofs only[go_sem,seval,h4,h5,h6,e1,e2,e3,af d45,af d45.symm,af d46,af d46.symm,af d56,af d56.symm,bL]
 refine⟨fun he=>?_,fun he=>?_⟩
 ·have he:e≠0:=G_
  exact fin _ l m e ((((((hU2.JF _ l).F3 m).F4 e).JF _ l).F3 m).F4 e) (by rw[hv,if_pos he,if_pos he,if_pos he])
 have he:e=0:=G_
 rw[if_neg G_]at hv
 subst he
 have hUa:=(((hU2.JF false l).F3 m).F4 0).F3 (m+2)
 refine⟨fun hlt=>?_,fun hlt=>?_⟩
 ·have hlt:(b.length:Int)<m+6:=by have:=of_decide_eq_true hlt;omega
  exact fin _ l (m+2) 10 (((hUa.JF false l).F3 (m+2)).F4 10) (by rw[hv,if_pos hlt];rfl)
 have hlt:¬(b.length:Int)<m+6:=by have:=of_decide_eq_false hlt;omega
 rw[if_neg hlt]at hv
 have hp:part b (m+2) (m+2+4)=(b.drop (m+2).toNat).take 4:=by
  unfold part
  rw[show(m+2+4 -(m+2)).toNat=4 by omega]
 rw[hp]
 refine⟨⟨AT,AT,AT⟩,_,rfl,HY (ada l AT),?_⟩
 simp -implicitDefEqProofs only[go_sem,seval,h4,h5,h6,e1,e2,e3,af d45,af d45.symm,af d46,af d46.symm,af d56,af d56.symm,bL]
 refine⟨_,rfl,Cu (ade _),?_⟩
 simp -implicitDefEqProofs only[go_sem,seval,h4,h5,h6,e1,e2,e3,af d45,af d45.symm,af d46,af d46.symm,af d56,af d56.symm,bL]
 refine⟨_,rfl,CE (r:=((bg.mk ((b.drop (m+2).toNat).take 4)).b==(bg.mk (adB (OG l))).b)) rfl,?_⟩
 simp -implicitDefEqProofs only[go_sem,seval,h4,h5,h6,e1,e2,e3,af d45,af d45.symm,af d46,af d46.symm,af d56,af d56.symm,bL]
 refine⟨fun hne=>?_,fun hne=>?_⟩
 ·have hne:(b.drop (m+2).toNat).take 4≠adB (OG l):=sW
  exact fin _ l (m+2) 12 (((hUa.JF false l).F3 (m+2)).F4 12) (by rw[hv,if_pos hne];rfl)
 ·have hne:¬(b.drop (m+2).toNat).take 4≠adB (OG l):=sW
  exact fin _ l (m+2+4) 0 (((hUa.JF false l).F3 (m+2+4)).F4 0) (by rw[hv,if_neg hne,show m+6=m+2+4 by omega];rfl)
def ad7{b:List UInt8}{most:Int}{s:ae}{ow:Bool}(hb:b.length<140737488355328)(hm1:-9223372036854775808<=most)(hm2:most<=9223372036854775807):FE prog 138 [.sl ow 1 b.length (flat b),.int .i64 most] s [.sl false 1 (s9 b most).1.length (flat (s9 b most).1),.int .i64 (s9 b most).2.1,.int .i64 (s9 b most).2.2] s:=FN.j8 (ad8 hb hm1 hm2 fun s' h=>⟨s,h,rfl,rfl⟩)
def gM(b:List UInt8)(most:Int):Option (List UInt8×Int×Int):=a8 (b.length<140737488355328/\-9223372036854775808<=most/\most<=9223372036854775807) (some (s9 b most))
def ET{b:List UInt8}{most:Int}{s:ae}{r:List UInt8×Int×Int}(h:gM b most=some r):FE prog 138 [.sl false 1 b.length (flat b),.int .i64 most] s [.sl false 1 r.1.length (flat r.1),.int .i64 r.2.1,.int .i64 r.2.2] s:=by
 unfold gM a8 at h
 split at h
 ·rename_i hc
  injection h with h
  subst h
  exact ad7 hc.1 hc.2.1 hc.2.2
 ·cases h
end Go.AB
end
section
namespace Go.AB
open Go Go.Sort Go.Proofs Go.Shelf
def Fe{G G':Gh}{w w':World}(hn:∀b,G.O b=.none)(h:aI G w G' w'):∃q os,w'=grow (w.drewN q) os:=by
 refine⟨w'.drawn -w.drawn,w'.heap.extract w.heap.size w'.heap.size,?_⟩
 have TY:w'.heap=w.heap++w'.heap.extract w.heap.size w'.heap.size:=by
  apply Array.ext_getElem?
  intro i
  rcases Nat.lt_or_ge i w.heap.size with hi|hi
  ·rw[Array.getElem?_append_left hi];exact h.frame i hi (.inr (hn i))
  ·rw[Array.getElem?_append_right hi,Array.getElem?_extract]
   have e:w.heap.size+(i -w.heap.size)=i:=AT
   rw[e]
   split
   ·rfl
   ·rename_i h2
    rw[Array.getElem?_eq_none AT]
 have hd:=h.drawn
 have ho:=h.os
 have ht:=h.tape
 have hp:=h.output
 generalize w'.heap.extract w.heap.size w'.heap.size=os at TY
 obtain⟨hp',tp,dr,o,ou⟩:=w'
 simp only at TY hd ho ht hp
 subst TY;subst ho;subst ht;subst hp
 show _={w.drewN (dr -w.drawn)with heap:=w.heap++os}
 unfold World.drewN
 have:w.drawn+(dr -w.drawn)=dr:=AT
 rw[this]
section
variable{P:Program}{f g:FuncId}{α:Type}[aO α][Inhabited α]{enc:α->List Value}{k:Nat}{cf:α->α->Int}
def NT(hfe:∀x y:α,FE P g [.agg (aO.cells x),.agg (aO.cells y)] uW [.int .i64 (cf x y)] uW)(ags:∀(w:World)(R:Nat->Nat)(x:α),VR w R (.agg (aO.cells x)) (.agg (enc x).toArray))(sG off size:Nat)(w:World):
 CmpLays P g #[] enc k cf sG off size w:=by
 intro m os dk hs x y
 have h:=hfe x y ⟨fun _=>0,fun _=>.none⟩ (sortWorldK enc k w sG off m dk os) #[.agg (enc x).toArray,.agg (enc y).toArray] ⟨fun _ _=>rfl,fun _ _=>rfl⟩ (fun b=>.inl rfl) (fun b o h=>F_)
  ⟨rfl,fun j a v hj hv=>by
    match j,hj,hv with
    |0,hj,hv=>cases hj;cases hv;exact ags _ _ x
    |1,hj,hv=>cases hj;cases hv;exact ags _ _ y⟩
 rw[Array.append_empty]
 refine h.mono ?_
 rintro e w' ⟨v,rs,s',G',rfl,⟨rfl,rfl⟩,_,_,hr,hp⟩
 have hv:v=.int .i64 (cf x y):=VR.b9 hr.1
 subst hv
 exact⟨rfl,Fe (fun _=>rfl) hp⟩
omit[Inhabited α]in
theorem GF(l:List α)(sp:List AV){i r:Nat}(hi:i<l.length)(hr:r<aO.w α):(flat l++sp)[i*aO.w α+r]? =(aO.cells l[i])[r]? :=by
 have hlt:i*aO.w α+r<(flat l).length:=by
  rw[au]
  calc i*aO.w α+r<(i+1)*aO.w α:=by rw[Nat.add_mul];omega
   _<=l.length*aO.w α:=Nat.mul_le_mul_right _ hi
 rw[List.getElem?_append_left hlt]
 have h:=lH l (aO.w α) i 1 rfl
 rw[Nat.one_mul,List.drop_eq_getElem_cons hi]at h
 have h2:(AB.sub (flat l) (i*aO.w α) (aO.w α))[r]? =(aO.cells l[i])[r]? :=by
  rw[h]
  show(flat [l[i]])[r]? =_
  unfold flat
  simp
 rw[Cm,if_pos hr]at h2
 exact h2
def Y8(hk:k=aO.w α)(hlen:∀x,(enc x).length=k)
 (acb:∀(w:World)(R:Nat->Nat)(x:α)(vs:List Value),vs.length=k->(∀(j:Nat)(c:AV)(v:Value),(aO.cells x)[j]? =some c->vs[j]? =some v->VR w R c v)->vs=enc x)
 (hvr:∀(w:World)(R:Nat->Nat)(x:α)(j:Nat)(c:AV)(v:Value),(aO.cells x)[j]? =some c->(enc x)[j]? =some v->VR w R c v)
 (ake:∀(sG off cap:Nat)(d:Array α)(w:World),HoldsK enc k w sG off d->sG<w.heap.size->d.size<4611686018427387904->Calls P f #[.slice (some ⟨sG,off,none⟩) d.size cap,.func (.func g) #[] #[]] w fun e w'=>e=.returned (.tuple #[])/\∃d' n os,PermIn 0 d.size d d'/\SortedIn (ltOf cf) 0 d.size d'/\w'=sortWorldK enc k w sG off n d' os)
 {b cap:Nat}{l:List α}{sp:List AV}{s:ae}{Q:List AV->ae->Prop}(hs:s b=some (.cells (flat l++sp)))(hc:0<cap)(hb:l.length<4611686018427387904)
 (hq:∀l':List α,l'.Perm l->l'.Pairwise (fun x y=>ltOf cf y x=false)->Q [] (s.set b (.cells (flat l'++sp)))):FN P f [.arr b 0 l.length cap,.fn g [] []] s Q:=by
 subst hk
 intro G w vs hg ho ez ha
 have hvs:vs= #[.slice (some ⟨b,0,none⟩) l.length cap,.func (.func g) #[] #[]]:=by
  obtain⟨h1,h2⟩:=ha
  have h1':vs.size=2:=h1
  apply Array.ext (by simpa using h1')
  intro i hi1 hi2
  have hi:i<2:=AT
  match i,hi with
  |0,_=>exact VR.pW (h2 0 _ _ rfl (Array.getElem?_eq_getElem AT)) hc
  |1,_=>
   obtain⟨vf,vc,e,s1,_,s2,_⟩:=VR.IT (h2 1 _ _ rfl (Array.getElem?_eq_getElem AT))
   rw[e]
   rw[Array.eq_empty_of_size_eq_zero s1,Array.eq_empty_of_size_eq_zero s2]
   rfl
 subst hvs
 obtain⟨q2,q3,c,t,q4,q5,q6⟩:=ez b _ hs
 have hbl:b<w.heap.size:=(Array.getElem?_eq_some_iff.1 q4).1
 have hw0:0<aO.w α:=aO.pos
 have hcs:c.size=l.length*aO.w α+sp.length:=by rw[q5.1,List.length_append,au]
 have dG:∀i(hi:i<l.length),(c.toList.drop (i*aO.w α)).take (aO.w α)=enc l[i]:=fun i hi=>by
  have hle:i*aO.w α+aO.w α<=l.length*aO.w α:=by rw[<-Nat.succ_mul];exact Nat.mul_le_mul_right _ hi
  refine acb w G.R l[i] _ C_ fun j x v hx hv=>?_
  have hj:j<aO.w α:=by
   have:=(List.getElem?_eq_some_iff.1 hv).1
   simp at this;omega
  rw[List.getElem?_take,if_pos hj,List.getElem?_drop]at hv
  exact(q5.2 _ x v (by rw[GF l sp hi hj];exact hx) Xb8).1
 have kq:∀(l2:List α)(i r:Nat)(hi:i<l2.length),r<aO.w α->(flatK enc (aO.w α) l2.toArray)[i*aO.w α+r]! =(enc l2[i])[r]!:=fun l2 i r hi hr=>by
  rw[get_flatK _ _ _ _ (by
   calc i*aO.w α+r<(i+1)*aO.w α:=by rw[Nat.add_mul];omega
    _<=l2.toArray.size*aO.w α:=Nat.mul_le_mul_right _ (by rw[List.size_toArray];exact hi))]
  have e1:(i*aO.w α+r)/aO.w α=i:=by rw[Nat.mul_comm,Nat.mul_add_div hw0,Nat.div_eq_of_lt hr,Nat.add_zero]
  have e2:(i*aO.w α+r)% aO.w α=r:=by rw[Nat.mul_comm,Nat.mul_add_mod,Nat.mod_eq_of_lt hr]
  rw[e1,e2]
  simp[hi]
 have hH:HoldsK enc (aO.w α) w b 0 l.toArray:=by
  intro j hj
  rw[size_flatK]at hj
  have hj:j<l.length*aO.w α:=by simpa using hj
  have hi:j/aO.w α<l.length:=by rw[Nat.div_lt_iff_lt_mul hw0];exact hj
  have hr:j % aO.w α<aO.w α:=Nat.mod_lt _ hw0
  have ej:j/aO.w α*aO.w α+j % aO.w α=j:=by
   have:=Nat.div_add_mod j (aO.w α)
   rw[Nat.mul_comm]at this;exact this
  refine⟨?_,?_⟩
  ·rw[Nat.zero_add,cell_of_row w q4]
   have h1:=dG _ hi
   have h2:((c.toList.drop (j/aO.w α*aO.w α)).take (aO.w α))[j % aO.w α]? =c[j]? :=by rw[List.getElem?_take,if_pos hr,List.getElem?_drop,ej];simp
   rw[<-h2,h1]
   have h3:=kq l _ _ hi hr
   rw[ej]at h3
   show _=some ((flatK enc (aO.w α) l.toArray)[j]!)
   rw[h3]
   have:j % aO.w α<(enc l[j/aO.w α]).length:=by rw[hlen];exact hr
   simp[this]
  ·unfold World.frozen?
   simp[q4]
 have aan:=ake b 0 cap l.toArray w hH hbl (by simpa using hb)
 rw[List.size_toArray]at aan
 refine aan.mono ?_
 rintro e w' ⟨rfl,d',m,os,hp,hsd,rfl⟩
 obtain⟨p1,_,p3⟩:=hp
 have p1:d'.size=l.length:=by simpa using p1
 have Pv:d'.toList.Perm l:=by
  have e1:d'.extract 0 l.toArray.size=d':=by rw[List.size_toArray,<-p1];exact Array.extract_size
  have e2:l.toArray.extract 0 l.toArray.size=l.toArray:=Array.extract_size
  have:(d'.extract 0 l.toArray.size).toList.Perm (l.toArray.extract 0 l.toArray.size).toList:=by simpa using p3
  rw[e1,e2]at this
  simpa using this
 obtain⟨l',rfl⟩:∃l':List α,d'=l'.toArray:=⟨d'.toList,BY⟩
 have hl':l'.length=l.length:=by simpa using p1
 have Pv:l'.Perm l:=by simpa using Pv
 have AW:l'.Pairwise (fun x y=>ltOf cf y x=false):=by
  rw[List.pairwise_iff_getElem]
  intro i j hi hj hij
  have:=hsd i j (Nat.zero_le _) hij AT
  simpa[hi,hj]using this
 generalize hF:flatK enc (aO.w α) l'.toArray=F
 have hFs:F.size=l.length*aO.w α:=by rw[<-hF,size_flatK];simp[hl']
 generalize hw':sortWorldK enc (aO.w α) w b 0 m l'.toArray os=w'
 have ew:w'=grow (mapBlock (Go.Sort.ahead w m) b (putCells id 0 F)) os:=by rw[<-hw',<-hF];rfl
 have hsz:w.heap.size<=w'.heap.size:=by rw[ew];simp[grow,mapBlock,Go.Sort.ahead]
 have K5:∀i,i<w.heap.size->i≠b->w'.heap[i]? =w.heap[i]? :=fun i hi hib=>by
  rw[ew,heap_grow_old _ _ (by simpa[mapBlock,Go.Sort.ahead]using hi)]
  unfold mapBlock
  show((Go.Sort.ahead w m).heap.modify b _)[i]? =_
  rw[Array.getElem?_modify,if_neg (fun e=>hib e.symm)]
  rfl
 have XI:w'.heap[b]? =some (.cells (putCells id 0 F c) t (0,0)):=by
  rw[ew,heap_grow_old _ _ (by simpa[mapBlock,Go.Sort.ahead]using hbl)]
  unfold mapBlock
  show((Go.Sort.ahead w m).heap.modify b _)[b]? =_
  rw[Array.getElem?_modify,if_pos rfl]
  show Option.map _ (w.heap[b]?)=_
  rw[q4];rfl
 have bK:aI G w G w':=by
  refine⟨by rw[ew];rfl,by rw[ew];rfl,by rw[ew];rfl,by rw[ew];exact Nat.le_add_right _ _,hsz,fun _ _=>Nat.le_refl _,fun i j hi hj=>?_,fun i hi hof=>?_,fun _ _ h=>⟨h,rfl⟩,fun _ _ h=>⟨h,rfl⟩⟩
  ·have hib:i≠b:=fun e=>by subst e;rw[q3]at hj;omega
   exact World.cell?_of_block (K5 i hi hib)
  ·exact K5 i hi fun e=>by subst e;rw[q2]at hof;rcases hof with h|h<;>cases h
 have hg':cq G w':=⟨fun i hi=>hg.jI i (Nat.le_trans hsz hi),fun i hi=>hg.jY i (Nat.le_trans hsz hi)⟩
 have hlt:∀i,G.O i≠.none->i<w.heap.size:=fun i hi=>hg.lt hi
 refine⟨_,[],_,G,rfl,hq l' Pv AW,hg',fun i o hi=>?_,⟨#[],rfl,rfl,fun j x y hx=>V_⟩,bK⟩
 unfold ae.set at hi
 by_cases hib:i=b
 ·rw[if_pos hib]at hi;injection hi with hi;subst hi;subst hib
  refine⟨q2,q3,_,t,XI,⟨?_,fun j x y hx hy=>?_⟩,?_⟩
  ·unfold putCells
   rw[Array.size_mapIdx,hcs,List.length_append,au,hl']
  ·unfold putCells at hy
   rw[Array.getElem?_mapIdx]at hy
   by_cases hj:j<l.length*aO.w α
   ·have hjc:j<c.size:=AT
    have hi':j/aO.w α<l'.length:=by rw[Nat.div_lt_iff_lt_mul hw0,hl'];exact hj
    have hr:j % aO.w α<aO.w α:=Nat.mod_lt _ hw0
    have ej:j/aO.w α*aO.w α+j % aO.w α=j:=by
     have:=Nat.div_add_mod j (aO.w α)
     rw[Nat.mul_comm]at this;exact this
    rw[Array.getElem?_eq_getElem hjc]at hy
    simp only[Option.map_some,Nat.zero_le,Nat.zero_add,hFs,hj,and_self,if_true,Nat.sub_zero,id]at hy
    have hx2:(aO.cells l'[j/aO.w α])[j % aO.w α]? =some x:=by rw[<-GF l' sp hi' hr,ej];exact hx
    have hy2:(enc l'[j/aO.w α])[j % aO.w α]? =some y:=by
     have h3:=kq l' _ _ hi' hr
     rw[ej,hF]at h3
     rw[h3]at hy
     have:j % aO.w α<(enc l'[j/aO.w α]).length:=by rw[hlen];exact hr
     simp[this]at hy⊢
     exact hy
    refine⟨hvr w' G.R _ _ _ _ hx2 hy2,?_⟩
    have hxm:x∈flat l':=by
     have:j<(flat l').length:=by rw[au,hl'];exact hj
     rw[List.getElem?_append_left this]at hx
     exact List.mem_of_getElem? hx
    have hv:=aF l'
    rw[<-hv]at hxm
    obtain⟨x0,_,rfl⟩:=List.mem_map.1 hxm
    exact dI.view ..
   ·have hnj:¬(0<=j/\j<0+F.size):=fun h=>hj (by have:=h.2;omega)
    have hy':c[j]? =some y:=by
     cases hcj:c[j]? with
     |none=>rw[hcj]at hy;cases hy
     |some u=>rw[hcj]at hy;simp only[Option.map_some,if_neg hnj]at hy;exact hy
    have hx':(flat l++sp)[j]? =some x:=by
     rw[List.getElem?_append_right (by rw[au,hl'];omega),au,hl']at hx
     rw[List.getElem?_append_right (by rw[au];omega),au]
     exact hx
    obtain⟨h1,h2⟩:=q5.2 j x y hx' hy'
    exact⟨bK.vr hg h1,h2.mono fun i hi=>⟨hi,rfl,K5 i (hlt i (by rw[hi];simp)) (fun e=>by subst e;rw[q2]at hi;cases hi)⟩⟩
  ·intro x hx
   rcases List.mem_append.1 hx with hx|hx
   ·refine q6 x (List.mem_append_left _ ?_)
    unfold flat at hx⊢
    rw[List.mem_flatten]at hx⊢
    obtain⟨cs,h1,h2⟩:=hx
    obtain⟨a,h3,rfl⟩:=List.mem_map.1 h1
    exact⟨_,List.mem_map.2 ⟨a,Pv.mem_iff.1 h3,rfl⟩,h2⟩
   ·exact q6 x (List.mem_append_right _ hx)
 ·rw[if_neg hib]at hi
  obtain⟨r1,r2,r3⟩:=ez i o hi
  refine⟨r1,r2,?_⟩
  have hbk:=K5 i (hlt i (by rw[r1];simp)) hib
  cases o with
  |cells cs=>
   obtain⟨c0,t0,r4,r5,r6⟩:=r3
   exact⟨c0,t0,hbk.trans r4,r5.mono (fun _ _ hv=>bK.vr hg hv) (fun b' j hb'=>⟨hb',rfl,K5 b' (hlt b' (by rw[hb'];simp)) (fun e=>by subst e;rw[q2]at hb';cases hb')⟩),r6⟩
  |map es=>
   obtain⟨jV,clock,r4,r5,r6⟩:=r3
   exact⟨jV,clock,hbk.trans r4,r5,fun j x y hx hy=>⟨bK.vr hg (r6 j x y hx hy).1,bK.vr hg (r6 j x y hx hy).2⟩⟩
end
end Go.AB
end
section
namespace Go.Proofs
open Go.Shelf
def Tryz.Bj:Go.Shelf.Ren:=⟨fun|6=>129|15=>165|14=>164|28=>197|29=>198|20=>189|21=>190|22=>191|23=>192|24=>193|25=>194|26=>195|27=>196|46=>221|47=>222|48=>223|49=>224|50=>225|57=>254|n=>n,fun|22=>23|24=>73|25=>190|3=>3|39=>238|0=>0|53=>254|55=>287|4=>4|46=>280|45=>279|50=>75|5=>5|9=>9|66=>310|70=>250|76=>346|77=>347|n=>n,fun|n=>n⟩
theorem Tryz.P8:Go.Proofs.SlLaysF0.n6 Tryz.prog Tryz.Bj:={
 mixed:=by kernel_rfl
 f6:=⟨Tryz.f129.name,by decide,Tryz.func129.trans (congrArg some (by kernel_rfl))⟩
 f14:=⟨Tryz.f164.name,by decide,Tryz.func164.trans (congrArg some (by kernel_rfl))⟩
 f15:=Tryz.func165.trans (congrArg some (by kernel_rfl))
 f20:=⟨Tryz.f189.name,by decide,Tryz.func189.trans (congrArg some (by kernel_rfl))⟩
 f21:=⟨Tryz.f190.name,by decide,Tryz.func190.trans (congrArg some (by kernel_rfl))⟩
 f22:=⟨Tryz.f191.name,by decide,Tryz.func191.trans (congrArg some (by kernel_rfl))⟩
 f23:=⟨Tryz.f192.name,by decide,Tryz.func192.trans (congrArg some (by kernel_rfl))⟩
 f24:=⟨Tryz.f193.name,by decide,Tryz.func193.trans (congrArg some (by kernel_rfl))⟩
 f25:=⟨Tryz.f194.name,by decide,Tryz.func194.trans (congrArg some (by kernel_rfl))⟩
 f26:=⟨Tryz.f195.name,by decide,Tryz.func195.trans (congrArg some (by kernel_rfl))⟩
 f27:=⟨Tryz.f196.name,by decide,Tryz.func196.trans (congrArg some (by kernel_rfl))⟩
 f28:=Tryz.func197.trans (congrArg some (by kernel_rfl))
 f29:=Tryz.func198.trans (congrArg some (by kernel_rfl))
 f46:=⟨Tryz.f221.name,by decide,Tryz.func221.trans (congrArg some (by kernel_rfl))⟩
 f47:=Tryz.func222.trans (congrArg some (by kernel_rfl))
 f48:=Tryz.func223.trans (congrArg some (by kernel_rfl))
 f49:=⟨Tryz.f224.name,by decide,Tryz.func224.trans (congrArg some (by kernel_rfl))⟩
 f50:=⟨Tryz.f225.name,by decide,Tryz.func225.trans (congrArg some (by kernel_rfl))⟩
 f57:=⟨Tryz.f254.name,by decide,Tryz.func254.trans (congrArg some (by kernel_rfl))⟩
 t0:=Tryz.underlying0
 a0:=Tryz.isAgg0
 z0:=Tryz.sizeOf0
 v0:=Tryz.zeroValue0
 t3:=Tryz.underlying3
 a3:=Tryz.isAgg3
 z3:=Tryz.sizeOf3
 v3:=Tryz.zeroValue3
 t4:=Tryz.underlying4
 a4:=Tryz.isAgg4
 z4:=Tryz.sizeOf4
 v4:=Tryz.zeroValue4
 t5:=Tryz.underlying5
 a5:=Tryz.isAgg5
 z5:=Tryz.sizeOf5
 v5:=Tryz.zeroValue5
 t9:=Tryz.underlying9
 a9:=Tryz.isAgg9
 z9:=Tryz.sizeOf9
 v9:=Tryz.zeroValue9
 t22:=Tryz.underlying23
 a22:=Tryz.isAgg23
 z22:=Tryz.sizeOf23
 v22:=Tryz.zeroValue23
 t25:=Tryz.underlying190
 a25:=Tryz.isAgg190
 z25:=Tryz.sizeOf190
 v25:=Tryz.zeroValue190
 t39:=Tryz.underlying238
 a39:=Tryz.isAgg238
 z39:=Tryz.sizeOf238
 v39:=Tryz.zeroValue238
 t45:=Tryz.underlying279
 a45:=Tryz.isAgg279
 z45:=Tryz.sizeOf279
 v45:=Tryz.zeroValue279
 t46:=Tryz.underlying280
 a46:=Tryz.isAgg280
 z46:=Tryz.sizeOf280
 v46:=Tryz.zeroValue280
 t50:=Tryz.underlying75
 a50:=Tryz.isAgg75
 z50:=Tryz.sizeOf75
 v50:=Tryz.zeroValue75
 t53:=Tryz.underlying254
 a53:=Tryz.isAgg254
 z53:=Tryz.sizeOf254
 v53:=Tryz.zeroValue254
 t55:=Tryz.underlying287
 a55:=Tryz.isAgg287
 z55:=Tryz.sizeOf287
 v55:=Tryz.zeroValue287
 t66:=Tryz.underlying310
 a66:=Tryz.isAgg310
 z66:=Tryz.sizeOf310
 v66:=Tryz.zeroValue310
 t70:=Tryz.underlying250
 a70:=Tryz.isAgg250
 z70:=Tryz.sizeOf250
 v70:=Tryz.zeroValue250
 t76:=Tryz.underlying346
 a76:=Tryz.isAgg346
 z76:=Tryz.sizeOf346
 v76:=Tryz.zeroValue346
 t77:=Tryz.underlying347
 a77:=Tryz.isAgg347
 z77:=Tryz.sizeOf347
 v77:=Tryz.zeroValue347}
end Go.Proofs
end
section
set_option maxRecDepth 4000
namespace Go.AB
open Go
open Go.Proofs.Tryz (prog)
attribute[-go_sem] bX cP bD bV Nat.add_zero mi cy
structure uq where
 Kind:Int
 aP:Int
 To:Int
 V:aa
 S:bg
instance:aO uq:=⟨8,fun x=>[.int .i64 x.Kind,.int .i64 x.aP,.int .i64 x.To,.int .i64 x.V.Kind,.int .i64 x.V.N,.str x.V.S.b,sF 4 x.V.L,.str x.S.b],(uq.mk 0 0 0 (aa.mk 0 0 (bg.mk []) []) (bg.mk [])),B_,fun _=>rfl,fun _=>rfl⟩
end Go.AB
end
section
namespace Go.AB
open Go
def whn{α:Type}{g:Bool}{z:α}{o:Option α}(hg:g=false):kc g z o=some z:=H_
def nT:¬((!true)=true):=BY
theorem nF:¬(false=true):=BY
def spB(c:UInt8):Bool:=((((((c.toNat:Int)==0)||((c.toNat:Int)==9))||((c.toNat:Int)==10))||((c.toNat:Int)==12))||((c.toNat:Int)==13))||((c.toNat:Int)==32)
def deB(c:UInt8):Bool:=decide (Lib.indexByte [40,41,60,62,91,93,123,125,47,37] c>=0)
def YY(c:UInt8):Bool:=!spB c&&!deB c
def IM(c:UInt8):Int:=if(decide ((c.toNat:Int)>=48))&&(decide ((c.toNat:Int)<=57))then(c.toNat:Int) -48 else if(decide ((c.toNat:Int)>=97))&&(decide ((c.toNat:Int)<=102))then(c.toNat:Int) -87 else if(decide ((c.toNat:Int)>=65))&&(decide ((c.toNat:Int)<=70))then(c.toNat:Int) -55 else -1
theorem xd(c:UInt8):jX c=some (spB c):=rfl
def Lv(c:UInt8):gH c=some (YY c):=by
 unfold gH YY
 rw[xd]
 cases spB c<;>rfl
def zW(c:UInt8):jv c=some (IM c):=of_decide_eq_true (nE (fun c=>decide (jv c=some (IM c))) By c)
def XL(c:UInt8):-1<=IM c/\IM c<=15:=of_decide_eq_true (nE (fun c=>decide (-1<=IM c/\IM c<=15)) By c)
theorem dy{b:List UInt8}{j:Nat}{x:UInt8}(h:b[j]? =some x):j<b.length/\ix b (j:Int)=x:=⟨(List.getElem?_eq_some_iff.1 h).1,UA h⟩
theorem rM{b:List UInt8}{j:Nat}(h:b[j]? =none):b.length<=j:=List.getElem?_eq_none_iff.1 h
theorem zf{n:Nat}(h:n<4611686018427387904):aC ((n:Int)+1)=((n+1:Nat):Int):=by grind [ao]
section
variable(b:List UInt8)
def JH:Nat->Bool->Nat->Nat
 |0,_,j=>j
 |f+1,c,j=>match b[j]? with
  |none=>j
  |some x=>if c then JH f (((x.toNat:Int)!=10)&&((x.toNat:Int)!=13)) (j+1)else if(x.toNat:Int)==37 then JH f true (j+1)else if !spB x then j else JH f false (j+1)
def J5:Nat->Nat->Nat
 |0,j=>j
 |f+1,j=>match b[j]? with
  |none=>j
  |some x=>if YY x then J5 f (j+1)else j
variable{b}
def Ox:∀(f:Nat)(c:Bool)(j:Nat),j<=b.length->j<=JH b f c j/\JH b f c j<=b.length
 |0,_,j,h=>⟨Nat.le_refl _,h⟩
 |f+1,c,j,h=>by
  rw[JH]
  cases hx:b[j]? with
  |none=>grind
  |some x=>
   have hj:=(dy hx).1
   have ih:=fun c=>Ox f c (j+1) AT
   simp
   split
   ·have:=ih (((x.toNat:Int)!=10)&&((x.toNat:Int)!=13));omega
   ·split
    ·have:=ih true;omega
    ·split
     ·omega
     ·have:=ih false;omega
theorem JD:∀(f:Nat)(j:Nat),j<=b.length->j<=J5 b f j/\J5 b f j<=b.length
 |0,j,h=>⟨Nat.le_refl _,h⟩
 |f+1,j,h=>by
  rw[J5]
  cases hx:b[j]? with
  |none=>grind
  |some x=>
   have hj:=(dy hx).1
   have ih:=JD f (j+1) AT
   simp
   split<;>omega
def F5(b:List UInt8)(j:Nat):Nat:=JH b b.length false j
def agY(hb:b.length<1152921504606846976)(k:Nat)(hk:k<=b.length):q9 b (k:Int)=some (F5 b k:Int):=by
 have hT:=Ox (b:=b) b.length false k hk
 generalize hTT:JH b b.length false k=T at hT
 have hA:F5 b k=T:=hTT
 rw[hA]
 unfold q9
 refine an BY (PG (z:=if T<b.length then .inr (T:Int)else .inl ()) (MV (iter_eq (o:=if T<b.length then .inr (T:Int)else .inl ()) (fun(s:Int×Bool)=>∃j f:Nat,s.1=j/\j<=b.length/\b.length -j<=f/\JH b f s.2 j=T) (fun s=>b.length -s.1.toNat) ⟨k,b.length,rfl,hk,AT,hTT⟩ C_ ?_) (by by_cases h:T<b.length<;>simp[h])) ?_)
 ·rintro⟨a,c⟩ ⟨j,f,e,hj,hf,hs⟩
  have e:a=(j:Int):=e
  subst e
  cases hx:b[j]? with
  |none=>
   have hl:=rM hx
   right
   have:T=j:=by
    cases f with
    |zero=>exact hs.symm
    |succ f=>grind [JH]
   grind
  |some x=>
   obtain⟨hl,hi⟩:=dy hx
   obtain⟨f,rfl⟩:∃g,f=g+1:=⟨f -1,AT⟩
   rw[JH,hx]at hs
   simp only at hs
   have hw:=zf (n:=j) AT
   cases c with
   |true=>
    left
    rw[if_pos rfl]at hs
    exact⟨_,aM C_ (dm (ay AT (aM rfl rfl)) rfl),⟨j+1,f,hw,AT,AT,A_⟩,A_⟩
   |false=>
    rw[if_neg B_]at hs
    by_cases h37:((x.toNat:Int)==37)=true
    ·left
     rw[if_pos h37]at hs
     exact⟨_,aM C_ (dm (ay AT (an B_ (aM A_ rfl))) rfl),⟨j+1,f,hw,AT,AT,hs⟩,A_⟩
    ·rw[if_neg h37]at hs
     by_cases hsp:(!spB x)=true
     ·right
      rw[if_pos hsp]at hs
      subst hs
      rw[if_pos hl]
      exact aM C_ (dm (ay AT (an B_ (an A_ (ah (xd _) (aM A_ rfl))))) rfl)
     ·left
      rw[if_neg hsp]at hs
      exact⟨_,aM C_ (dm (ay AT (an B_ (an A_ (ah (xd _) (an A_ rfl))))) rfl),⟨j+1,f,hw,AT,AT,hs⟩,A_⟩
 ·by_cases h:T<b.length
  ·simp_all
  ·rw[if_neg h,show T=b.length by omega];rfl
def u7(b:List UInt8)(j:Nat):Nat:=J5 b b.length j
theorem aaE(hb:b.length<1152921504606846976)(B:Bk)(k:Nat)(last:Bool)(hk:k<=b.length):gV ⟨B,b,(k:Int),last⟩=some (⟨part b (k:Int) (u7 b k:Int)⟩,(decide ((u7 b k:Int)<(b.length:Int)))||last,⟨B,b,(u7 b k:Int),last⟩):=by
 have hT:=JD (b:=b) b.length k hk
 generalize hTT:J5 b b.length k=T at hT
 have hA:u7 b k=T:=hTT
 rw[hA]
 refine eJ (iter_eq (o:=(⟨B,b,(T:Int),last⟩:aq)) (fun(s:aq)=>∃j f:Nat,s=⟨B,b,(j:Int),last⟩/\j<=b.length/\b.length -j<=f/\J5 b f j=T) (fun s=>b.length -s.at_.toNat) ⟨k,b.length,rfl,hk,AT,hTT⟩ C_ ?_) (ay ?_ rfl)
 ·rintro a ⟨j,f,rfl,hj,hf,hs⟩
  cases hx:b[j]? with
  |none=>
   have hl:=rM hx
   right
   have:T=j:=by
    cases f with
    |zero=>exact hs.symm
    |succ f=>grind [J5]
   have hd:decide ((j:Int)<(b.length:Int))=false:=C_
   rw[this]
   simp only[hd,false_implies,Rk,Zy,aL,Bool.false_and]
   rfl
  |some x=>
   obtain⟨hl,hi⟩:=dy hx
   obtain⟨f,rfl⟩:∃g,f=g+1:=⟨f -1,AT⟩
   rw[J5,hx]at hs
   simp only at hs
   have hw:=zf (n:=j) AT
   have hd:decide ((j:Int)<(b.length:Int))=true:=C_
   have hrx:gH (ix b (j:Int))=some (YY x):=by rw[hi];exact Lv x
   by_cases hr:YY x=true
   ·rw[if_pos hr]at hs
    left
    refine⟨_,ay (fun _=>⟨A_,A_⟩) (ah (by rw[hd,JX,hrx]) (aM A_ rfl)),⟨j+1,f,A_,AT,AT,hs⟩,A_⟩
   simp_all
 grind
end
def zB(last:Bool):Int:=if last then 10 else 6
def PJ(B:Bk)(b:List UInt8)(k:Int)(last:Bool):cM ⟨B,b,k,last⟩=some (zB last):=by cases last<;>rfl
def sd{B:Bk}{b:List UInt8}{j:Nat}{last:Bool}(h:b[j]? =none):bS ⟨B,b,(j:Int),last⟩=some (0,false):=by
 have:=rM h
 exact aM A_ rfl
def fm{B:Bk}{b:List UInt8}{j:Nat}{last:Bool}{x:UInt8}(h:b[j]? =some x):bS ⟨B,b,(j:Int),last⟩=some (x,true):=by
 obtain⟨h1,h2⟩:=dy h
 exact an A_ (ay A_ A_)
def x7(last:Bool):zB last≠0:=by cases last<;>decide
def okP{A:Type}(j n:Nat):(A×Nat)⊕Int->Prop
 |.inl r=>j<r.2/\r.2<=n
 |.inr e=>e≠0
def okP.mono{A:Type}{j n:Nat}:∀{r:(A×Nat)⊕Int},okP (j+1) n r->okP j n r
 |.inl _,h=>⟨Nat.lt_of_succ_lt h.1,h.2⟩
 |.inr _,h=>h
def ez(q:List UInt8×Int)(d:Int):List UInt8×Int:=if q.2<0 then(q.1,d)else(q.1++[jt (aC (aC (16*q.2)+d))],-1)
def ph(q:List UInt8×Int):List UInt8:=if q.2>=0 then q.1++[jt (aC (16*q.2))]else q.1
section
variable(b:List UInt8)(last:Bool)
def GN:Nat->List UInt8×Int->Nat->(List UInt8×Nat)⊕Int
 |0,_,_=>.inr (zB last)
 |f+1,q,j=>match b[j]? with
  |none=>.inr (zB last)
  |some x=>if(x.toNat:Int)==62 then .inl (ph q,j+1)else if spB x then GN f q (j+1)else if decide (IM x<0)then .inr 11 else GN f (ez q (IM x)) (j+1)
variable{b last}
def Hq(q:List UInt8×Int)(j:Nat):Prop:=q.1.length<=j/\-1<=q.2/\q.2<=15
def EL{u:Bool}{o:List UInt8}(c:UInt8)(h:o.length+1<=room):aG ⟨u,true,⟨o⟩⟩ c=some (WK.mk,⟨true,true,⟨o++[c]⟩⟩):=ay rfl (ay h rfl)
def abA{u:Bool}{o:List UInt8}(h:o.length<=room):bT ⟨u,true,⟨o⟩⟩=some (⟨o⟩,⟨u,false,⟨o⟩⟩):=ay ⟨rfl,h⟩ rfl
theorem Ch:∀(f:Nat)(q:List UInt8×Int)(j:Nat),j<=b.length->okP j b.length (GN b last f q j)
 |0,q,j,_=>x7 last
 |f+1,q,j,hj=>by
  rw[GN]
  cases hx:b[j]? with
  |none=>exact x7 last
  |some x=>
   have hl:=(dy hx).1
   simp only
   by_cases h1:((x.toNat:Int)==62)=true
   ·rw[if_pos h1];exact⟨BY,A_⟩
   ·rw[if_neg h1]
    by_cases h2:spB x=true
    ·rw[if_pos h2];exact(Ch f q (j+1) AT).mono
    ·rw[if_neg h2]
     by_cases h3:(decide (IM x<0))=true
     ·rw[if_pos h3];exact(by simp:(11:Int)≠0)
     ·rw[if_neg h3];exact(Ch f (ez q (IM x)) (j+1) AT).mono
def Se(r:(List UInt8×Nat)⊕Int)(x:aa×Int×aq):Prop:=match r with
 |.inl r=>x.1=⟨4,0,⟨r.1⟩,[]⟩/\x.2.1=0/\x.2.2.at_=(r.2:Int)
 |.inr e=>x.2.1=e
def acw(hb:b.length<1048576)(u:Bool)(k:Nat)(hk:k<=b.length):∃x,gj ⟨⟨u,true,⟨[]⟩⟩,b,(k:Int),last⟩=some x/\Se (GN b last (b.length+1) ([],-1) k) x:=by
 have cg:room=140737488355328:=rfl
 generalize hT:GN b last (b.length+1) ([],-1) k=T
 unfold gj
 refine eh (fun(s:Int×aq)=>∃(j f:Nat)(u:Bool)(o:List UInt8),s.2=⟨⟨u,true,⟨o⟩⟩,b,(j:Int),last⟩/\j<=b.length/\b.length -j+1<=f/\Hq (o,s.1) j/\GN b last f (o,s.1) j=T) (fun s=>b.length -s.2.at_.toNat) (Se T) ⟨k,b.length+1,u,[],rfl,hk,AT,⟨Nat.zero_le _,A_,A_⟩,hT⟩ A_ ?_
 rintro⟨h,o2⟩ ⟨j,f,u,o,e,hj,hf,hq,hs⟩
 have e:o2=⟨⟨u,true,⟨o⟩⟩,b,(j:Int),last⟩:=e
 subst e
 obtain⟨f,rfl⟩:∃g,f=g+1:=⟨f -1,AT⟩
 obtain⟨q1,q2,q3⟩:=hq
 have q1:o.length<=j:=q1
 have q2:-1<=h:=q2
 have q3:h<=15:=q3
 rw[GN]at hs
 cases hx:b[j]? with
 |none=>
  rw[hx]at hs
  refine⟨_,ah (sd hx) (aM rfl (ah (PJ ..) rfl)),?_⟩
  show Se T _
  rw[<-hs]
  exact rfl
 |some x=>
  obtain⟨hl,hi⟩:=dy hx
  rw[hx]at hs
  simp only at hs
  have hw:=zf (n:=j) AT
  have hm:b.length -(aC ((j:Int)+1)).toNat<b.length -(j:Int).toNat:=by rw[hw];omega
  by_cases h62:((x.toNat:Int)==62)=true
  ·rw[if_pos h62]at hs
   by_cases hh:h>=0
   ·refine⟨_,ah (fm hx) (an nT (ah (zW x) (dm (aM A_ (ah (EL _ AT) (ah (abA C_) rfl))) rfl))),?_⟩
    show Se T _
    rw[<-hs]
    exact⟨by show(⟨4,0,_,_⟩:aa)=_;unfold ph;grind,rfl,hw⟩
   ·refine⟨_,ah (fm hx) (an nT (ah (zW x) (dm (an A_ (aM h62 (ah (abA AT) rfl))) rfl))),?_⟩
    show Se T _
    rw[<-hs]
    exact⟨by show(⟨4,0,_,_⟩:aa)=_;unfold ph;grind,rfl,hw⟩
  ·rw[if_neg h62]at hs
   have n62:¬((((x.toNat:Int)==62)&&(decide (h>=0)))=true):=by
    have:((x.toNat:Int)==62)=false:=by simpa using h62
    rw[this];simp
   by_cases hsp:spB x=true
   ·rw[if_pos hsp]at hs
    refine⟨_,ah (fm hx) (an nT (ah (zW x) (dm (an n62 (an h62 (ah (xd x) (aM hsp rfl)))) rfl))),⟨j+1,f,u,o,?_,AT,AT,⟨A_,q2,q3⟩,hs⟩,hm⟩
    grind
   ·rw[if_neg hsp]at hs
    by_cases hn:(decide (IM x<0))=true
    ·rw[if_pos hn]at hs
     refine⟨_,ah (fm hx) (an nT (ah (zW x) (dm (an n62 (an h62 (ah (xd x) (an hsp (aM hn rfl))))) rfl))),?_⟩
     show Se T _
     rw[<-hs]
     exact rfl
    ·rw[if_neg hn]at hs
     have hx2:=XL x
     by_cases hh:h<0
     ·refine⟨_,ah (fm hx) (an nT (ah (zW x) (dm (an n62 (an h62 (ah (xd x) (an hsp (an hn (aM A_ rfl)))))) rfl))),⟨j+1,f,u,o,?_,AT,AT,⟨A_,hx2.1,hx2.2⟩,?_⟩,hm⟩
      ·grind
      ·unfold ez at hs
       grind
     ·refine⟨_,ah (fm hx) (an nT (ah (zW x) (dm (an n62 (an h62 (ah (xd x) (an hsp (an hn (an A_ (ah (EL _ AT) rfl))))))) rfl))),⟨j+1,f,true,o++[jt (aC (aC (16*h)+IM x))],?_,AT,AT,⟨?_,A_,A_⟩,?_⟩,hm⟩
      ·grind
      ·grind
      ·unfold ez at hs
       grind
end
section
variable{b:List UInt8}{last:Bool}
end
end Go.AB
end
