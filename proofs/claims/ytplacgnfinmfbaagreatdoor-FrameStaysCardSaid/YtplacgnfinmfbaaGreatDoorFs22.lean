/- A part. -/
import Derived.Test.YtplacgnfinmfbaaGreatDoorFs21
set_option linter.unusedSimpArgs false
set_option linter.unusedVariables false
section
set_option maxRecDepth 16000
namespace Go.AB
open Go
open Go.Proofs.Tryz (prog)
attribute[-go_sem] Nat.add_zero pj cT ck cN bK cj
def C5:IC:=dec 0x30fbb04e8d930906a6ce9186a6012735cccffce8762a2ddba466f398e9281cf77622d4f9f3bf8115885f3e99a811d0ec61c3df0094eb661feb3e8ae7c39275d1f34d92fc94f8312b7149134a08a6f3e1d26419d0d14cff45ddc334d4fdbeabd44c1327151b7ff2bd517b7ac23003b143308d1a385f0cb372cc3ccbf57050436ba947a6156a9c707352a15dac887b8a199472f8521650608fa4e0c64349704f910d6a8aeb8526c83e68552dcbf2d8488877e73a0187a2bb8a042b1550dc73f0a43b8bb5ab320f98f79997c7fcf3c2ac315424d321aeca8dcd1846dcb50b8c80ea9e30722a830d6a20833883dc42adcad14fb7515d5dd7b408ccc61d9a8b096c18bbe7ebb7fd64e9a6d0e5cc1d51fcd65f9c8a6d3c7ae50615331194a5d73d6f2f78400d44b769a26596f7c81914831a02cfd98a78ce6723f439b30a577721efcd8edf40d8f5ed5269e9fbca9135115c3cd561be7c9df1200dd1b6fb4f7b90831bb2477f18d3dd823687f0c9f543d62bdd19cce9aa927d1254ac91e879b11348aa1b86cd83ac23a9ad54492b816855f74b13ea65388478b
theorem Mt:aS prog 175 94 [⟨2,true,none⟩,⟨3,true,none⟩] C5=true:=by kernel_rfl
def Gs:IC:=dec 0x582e9f67a1f2d437cd4454f73ae55cfe5337bbc772103c2f44db0c9f6fe4bb9f8832e4eb3f3c7a3fff38b42d435a5a4440c9f2580435b9c6f4cae9456e8f9aa0a79b532d609799009739a9bfc4d7b50ab9af4206f35b1a9a458ed56f9342be10906301284de81be1a42a7fd101e3d9cdc60606665e1988d82bcd4298bed1beb0d0915d1c29679ca75de8d07952ef30447067179795d3ff93c902c2142b4dfcc456cbf7ecab6c692d855d1eb5f69f803e8c1feaccefb2587d30a36e72ce61c5f0cb4a4328118ac0e2b0c5cb527081146793e47e7f5b7a225836a3021fa59f50863679a7e1ea06d2fa0a6d9dd2dce7da4dafa12bb41e0fbd8048be175a6c178824473a
theorem Ps:aS prog 130 74 [⟨2,true,none⟩] Gs=true:=by kernel_rfl
def AS:IC:=dec 0xb74af5e77c9cf87ab6c44c3623030d381037e63198af6558743590a79e55918ba579c90633332f3077ac7fe74520ab461f7cbb0667e5459ea8d40142f448a9e29b8583f621cc2fcc7dd8ee147f231958542a1a52831b363a384a083ba474915af25cd97062c7efef34e400d7fcdcf96bba167c8d9ea13e975b3008b2899bc674ffb5ad23f5b2e34c60bfd1e92f9b09cdaed6e44df2da5fba1d8658687d04862d7af4a79d8cac5e60b005b200798d0f2e49c
theorem Kr:aS prog 83 46 [⟨4,true,none⟩,⟨5,true,none⟩,⟨6,true,none⟩] AS=true:=by kernel_rfl
section
variable{s0 s:ae}{b:List UInt8}{most:Int}{B BR:Nat}{z:ZS}{Q:List AV->ae->Prop}
theorem Qc(hS:pI s0 s b most B BR z)(hb:b.length<72057594037927936)(hz:ZI b most z)
 (hq:∀s' p q,pI s0 s' b most B BR (lP (ag b) z).2.2->((lP (ag b) z).2.2.e≠0->ptr p/\ptr q)->((lP (ag b) z).2.2.e=0->∃t d:HT,p=.ref t.B 0/\q=.ref d.B 0/\gv s' t/\gv s' d/\t.lens=(lP (ag b) z).1/\d.lens=(lP (ag b) z).2.1)->Q [p,q] s'):FN prog 175 [.ref B 0] s Q:=by
 have cf:room=140737488355328:=rfl
 refine FO Mt rfl rfl ?_
 rw[C5]
 conv in dec _=>reduce
 simp -implicitDefEqProofs only[go_sem,Nat.reduceBEq,Nat.reduceAdd,Nat.reduceMul,Nat.reduceLeDiff,Nat.reduceEqDiff,Nat.reduceBNe,UInt8.reduceToNat,UInt32.reduceToNat,bL]
 have p5:(2:Int)^5=32:=by decide
 have p4:(2:Int)^4=16:=by decide
 have h1:=db (b:=b) (n:=5) hz.1
 have h2:=db (b:=b) (n:=5) h1.1
 have h3:=db (b:=b) (n:=4) h2.1
 have hz1:ZI b most (aB (ag b) 5 z).2:=⟨h1.1,by rw[h1.2.2.2.2.1];exact hz.2⟩
 have hz2:ZI b most (aB (ag b) 5 (aB (ag b) 5 z).2).2:=⟨h2.1,by rw[h2.2.2.2.2.1];exact hz1.2⟩
 have hH:jI (ag b) z=((aB (ag b) 5 z).1+257,(aB (ag b) 5 (aB (ag b) 5 z).2).1+1,(aB (ag b) 4 (aB (ag b) 5 (aB (ag b) 5 z).2).2).1+4,if(aB (ag b) 5 z).1+257>286\/(aB (ag b) 5 (aB (ag b) 5 z).2).1+1>30 then(aB (ag b) 4 (aB (ag b) 5 (aB (ag b) 5 z).2).2).2.fail 11 else(aB (ag b) 4 (aB (ag b) 5 (aB (ag b) 5 z).2).2).2):=rfl
 have hHl:=NC (b:=b) hz.1
 refine Am hS hb (n:=5) (by decide) hz fun s1 hS1 q1 q2=>?_
 simp -implicitDefEqProofs only[go_sem,Nat.reduceBEq,Nat.reduceAdd,Nat.reduceMul,Nat.reduceLeDiff,Nat.reduceEqDiff,Nat.reduceBNe,UInt8.reduceToNat,UInt32.reduceToNat,bL]
 refine Am hS1 hb (n:=5) (by decide) hz1 fun s2 hS2 q3 q4=>?_
 simp -implicitDefEqProofs only[go_sem,Nat.reduceBEq,Nat.reduceAdd,Nat.reduceMul,Nat.reduceLeDiff,Nat.reduceEqDiff,Nat.reduceBNe,UInt8.reduceToNat,UInt32.reduceToNat,bL]
 refine Am hS2 hb (n:=4) (by decide) hz2 fun s3 hS3 q5 q6=>?_
 clear hS hS1 hS2 q1 q2 q3 q4 q5 q6
 rw[p5]at h1 h2
 rw[p4]at h3
 generalize aB (ag b) 4 (aB (ag b) 5 (aB (ag b) 5 z).2).2=k1 at*
 generalize aB (ag b) 5 (aB (ag b) 5 z).2=m1 at*
 generalize aB (ag b) 5 z=n1 at*
 have e1:aw (aw (n1.1+256)+1)=n1.1+257:=by rw[ar (n:=n1.1+256) (by omega) (by omega),ar (by omega) (by omega)];omega
 have e2:aw (m1.1+1)=m1.1+1:=ar (by omega) (by omega)
 have e3:aw (k1.1+4)=k1.1+4:=ar (by omega) (by omega)
 simp -implicitDefEqProofs only[go_sem,Nat.reduceBEq,Nat.reduceAdd,Nat.reduceMul,Nat.reduceLeDiff,Nat.reduceEqDiff,Nat.reduceBNe,UInt8.reduceToNat,UInt32.reduceToNat,e1,e2,e3,bL]
 obtain⟨N,M,K,Z4,hN⟩:∃N M K Z4,jI (ag b) z=(N,M,K,Z4):=⟨_,_,_,_,rfl⟩
 rw[hN]at hH hHl
 injection hH with a1 hH
 injection hH with a2 hH
 injection hH with a3 a4
 rw[<-a1,<-a2]at*
 rw[<-a3]at*
 clear a1 a2 a3 e1 e2 e3 h1 h2 h3 hz1 hz2
 simp only at hHl
 refine(?fst:(∀s4,pI s0 s4 b most B BR Z4->(?G:ae->Prop) s4)->_) ?rest
 case fst=>
  intro rest
  refine⟨fun hc=>?_,fun hc=>?_⟩
  ·refine yq hS3 11 fun s4 hS4 _ _=>?_
   rw[if_pos (by simp at hc;omega)]at a4
   rw[<-a4]at hS4
   simp -implicitDefEqProofs only[go_sem,Nat.reduceBEq,Nat.reduceAdd,Nat.reduceMul,Nat.reduceLeDiff,Nat.reduceEqDiff,Nat.reduceBNe,UInt8.reduceToNat,UInt32.reduceToNat,bL]
   exact rest s4 hS4
  ·rw[if_neg (by simp at hc;omega)]at a4
   rw[<-a4]at hS3
   exact rest s3 hS3
 clear hS3 a4
 intro s4 hS4
 refine⟨by omega,by omega,by omega,fun bo hbo=>?_⟩
 refine FE.app (zR (r:=rv) rfl) ?_
 have ho0:s0 bo=none:=by
  cases h:s0 bo with
  |none=>rfl
  |some o=>rw[hS4.sub _ _ h]at hbo;cases hbo
 have hoB:bo≠B:=fun e=>by subst e;rw[hS4.hB]at hbo;cases hbo
 have hoR:bo≠BR:=fun e=>by subst e;rw[hS4.hR]at hbo;cases hbo
 have hz4:ZI b most Z4:=⟨hHl.1,by rw[hHl.2.2.1];exact hz.2⟩
 have hK:(rv.length:Int)=19:=rfl
 have hL:part rv 0 K=rv.take K.toNat:=by
  unfold part
  rw[Int.sub_zero];rfl
 have hLb:∀x∈rv.take K.toNat,0<=x/\x<19:=fun x hx=>by
  have:∀x∈rv,0<=x/\x<19:=by decide
  exact this x (List.mem_of_mem_take hx)
 have hLl:(rv.take K.toNat).length<=19:=by
  rw[List.length_take]
  have:rv.length=19:=rfl
  omega
 simp -implicitDefEqProofs only[go_sem,Nat.reduceBEq,Nat.reduceAdd,Nat.reduceMul,Nat.reduceLeDiff,Nat.reduceEqDiff,Nat.reduceBNe,UInt8.reduceToNat,UInt32.reduceToNat,bL]
 refine⟨⟨by omega,by omega,by omega⟩,?_⟩
 rw[hL]
 have hdL:nJ (ag b) z=Ag (ag b) (KV (ag b) (rv.take K.toNat) (List.replicate 19 0) Z4).1 (N+M).toNat ((N+M).toNat+1) [] (kv (KV (ag b) (rv.take K.toNat) (List.replicate 19 0) Z4).1 (KV (ag b) (rv.take K.toNat) (List.replicate 19 0) Z4).2):=by
  unfold nJ
  rw[hN]
 have hOl:=MG (b:=b) (rv.take K.toNat) (List.replicate 19 0) Z4 hz4.1
 generalize hO:KV (ag b) (rv.take K.toNat) (List.replicate 19 0) Z4=O at hdL hOl
 generalize rv.take K.toNat=L at hLb hLl hO
 clear hL hK
 refine eV L.length (fun k τ=>∃(S:ae)(of:List Int)(Zk:ZS),pI s0 S b most B BR Zk/\ZI b most Zk/\S bo=some (.cells (flat of))/\of.length=19/\KV (ag b) (L.drop k) of Zk=O/\τ=⟨[(0,.ref B 0),(4,.int .i64 N),(5,.int .i64 M),(7,.arr bo 0 19 19),(41,.sl false 1 L.length (flat L)),(42,.int .i64 L.length),(43,.int .i64 k)],[],S⟩) (by omega) ?_ (fun k hk J τ hτ hJ=>?_) (fun J τ hτ=>?_)
 ·exact⟨_,List.replicate 19 0,Z4,hS4.off ho0 hoB hoR (fun y hy=>ah hy),hz4,ch,rfl,hO,rfl⟩
 ·obtain⟨S,of,Zk,hS,hzk,hSo,hof,hOk,rfl⟩:=hτ
  have hlt:decide ((k:Int)<(L.length:Int))=true:=by simp;omega
  have hw:aw ((k:Int)+1)=((k+1:Nat):Int):=by rw[ar (by omega) (by omega)];omega
  have hx:=hLb (ix L (k:Int)) (by rw[fo hk];exact List.getElem_mem _)
  rw[List.drop_eq_getElem_cons hk,KV,<-fo hk]at hOk
  simp -implicitDefEqProofs only[go_sem,Nat.reduceBEq,Nat.reduceAdd,Nat.reduceMul,Nat.reduceLeDiff,Nat.reduceEqDiff,Nat.reduceBNe,UInt8.reduceToNat,UInt32.reduceToNat,hlt,bL]
  generalize ix L (k:Int)=x at hx hOk
  refine⟨⟨by omega,by omega⟩,?_⟩
  have hn:=db (b:=b) (n:=3) hzk.1
  refine Am hS hb (n:=3) (by decide) hzk fun S2 hS2 _ Pl=>?_
  have ahV:S2 bo=some (.cells (flat of)):=(Pl bo hoB hoR).trans hSo
  have E0:setAt (flat of) (x.toNat*1) [.int .i64 (aB (ag b) 3 Zk).1]=flat (Jd of x (aB (ag b) 3 Zk).1):=J5 of x (aB (ag b) 3 Zk).1 1 rfl
  have eO:=(GZ of (n:=1) rfl (j:=x) hx.1 (by omega)).1
  simp -implicitDefEqProofs only[go_sem,Nat.reduceBEq,Nat.reduceAdd,Nat.reduceMul,Nat.reduceLeDiff,Nat.reduceEqDiff,Nat.reduceBNe,UInt8.reduceToNat,UInt32.reduceToNat,ahV,E0,hw,bL]
  refine⟨⟨by omega,by omega⟩,eO,?_⟩
  exact hJ _ ⟨_,Jd of x (aB (ag b) 3 Zk).1,(aB (ag b) 3 Zk).2,hS2.off ho0 hoB hoR (fun y hy=>ah hy),⟨hn.1,by rw[hn.2.2.2.2.1];exact hzk.2⟩,ch,by rw[Ha of hx.1 (by omega)];exact hof,hOk,rfl⟩
 ·obtain⟨S,of,Zk,hS,hzk,hSo,hof,hOk,rfl⟩:=hτ
  have hlt:decide ((L.length:Int)<(L.length:Int))=false:=by simp
  rw[List.drop_eq_nil_of_le (Nat.le_refl _),KV]at hOk
  subst hOk
  simp -implicitDefEqProofs only[go_sem,Nat.reduceBEq,Nat.reduceAdd,Nat.reduceMul,Nat.reduceLeDiff,Nat.reduceEqDiff,Nat.reduceBNe,UInt8.reduceToNat,UInt32.reduceToNat,hlt,bL]
  refine CU (l:=of) hSo hof (by decide) ?_
  have hS5:pI s0 (S.del bo) b most B BR Zk:=hS.off ho0 hoB hoR (fun y hy=>by unfold ae.del;rw[if_neg hy])
  simp -implicitDefEqProofs only[go_sem,Nat.reduceBEq,Nat.reduceAdd,Nat.reduceMul,Nat.reduceLeDiff,Nat.reduceEqDiff,Nat.reduceBNe,UInt8.reduceToNat,UInt32.reduceToNat,bL]
  simp only at hdL hOl
  have hc:=yj of Zk
  have hz6:ZI b most (kv of Zk):=⟨by rw[hc.1];exact hzk.1,by rw[hc.2.1];exact hzk.2⟩
  have hnm:aw (N+M)=(((N+M).toNat:Nat):Int):=by rw[ar (by omega) (by omega)];omega
  refine qE hS5 hof (fun S6 hS6 he ht=>?_) (fun S6 t hS6 he ht hx hl=>?_)
  ·simp -implicitDefEqProofs only[go_sem,Nat.reduceBEq,Nat.reduceAdd,Nat.reduceMul,Nat.reduceLeDiff,Nat.reduceEqDiff,Nat.reduceBNe,UInt8.reduceToNat,UInt32.reduceToNat,bL]
   refine VB hS6 he _ ?_
   have hB:=hS6.hB
   rw[R6 he]at hdL
   have hdT:lP (ag b) z=([],[],kv of Zk):=by
    unfold lP
    rw[hdL]
    exact if_pos he
   rw[hdT]at hq
   have hcc:((kv of Zk).e !=0)=true:=by simpa using he
   simp -implicitDefEqProofs only[go_sem,Nat.reduceBEq,Nat.reduceAdd,Nat.reduceMul,Nat.reduceLeDiff,Nat.reduceEqDiff,Nat.reduceBNe,UInt8.reduceToNat,UInt32.reduceToNat,hB,hcc,bL]
   exact hq S6 _ _ hS6 (fun _=>⟨.inl rfl,.inl rfl⟩) (fun e=>absurd e he)
  ·simp -implicitDefEqProofs only[go_sem,Nat.reduceBEq,Nat.reduceAdd,Nat.reduceMul,Nat.reduceLeDiff,Nat.reduceEqDiff,Nat.reduceBNe,UInt8.reduceToNat,UInt32.reduceToNat,hnm,bL]
   refine VC hS6 hb hz6 hx (by omega) fun S7 o hS7 ho=>?_
   rw[hl]at ho hS7
   rw[<-hdL]at ho hS7
   have hB:=hS7.hB
   have hdl:=ND (b:=b) hz.1
   rw[hN]at hdl
   generalize hD:nJ (ag b) z=D at hdL hdl ho hS7 hB
   simp -implicitDefEqProofs only[go_sem,Nat.reduceBEq,Nat.reduceAdd,Nat.reduceMul,Nat.reduceLeDiff,Nat.reduceEqDiff,Nat.reduceBNe,UInt8.reduceToNat,UInt32.reduceToNat,hB,bL]
   refine⟨fun he=>?_,fun he=>?_⟩
   ·have he:D.2.e≠0:=by simpa using he
    have hdT:lP (ag b) z=([],[],D.2):=by
     unfold lP
     rw[hD]
     exact if_pos he
    rw[hdT]at hq
    exact hq S7 _ _ hS7 (fun _=>⟨.inl rfl,.inl rfl⟩) (fun e=>absurd e he)
   ·have he:D.2.e=0:=by simpa using he
    have ho:=ho he
    obtain⟨h1,h2⟩:=hdl.2.2.2 he
    simp only at h2
    have hdT:lP (ag b) z=(D.1.take N.toNat,D.1.drop N.toNat,kv (D.1.drop N.toNat) (kv (D.1.take N.toNat) (if D.1.getD 256 0=0 then D.2.fail 11 else D.2))):=by
     unfold lP
     rw[hD,hN]
     exact if_neg (by simp[he])
    rw[hdT]at hq
    subst ho
    have hix:ix D.1 256=D.1.getD 256 0:=by
     have h3:256<D.1.length:=by omega
     have:=fo h3
     rw[List.getD_eq_getElem?_getD,List.getElem?_eq_getElem h3]
     exact this
    have hp1:part D.1 0 N=D.1.take N.toNat:=by
     unfold part
     rw[Int.sub_zero];rfl
    have hp2:part D.1 N (D.1.length:Int)=D.1.drop N.toNat:=by
     unfold part
     rw[List.take_of_length_le (by rw[List.length_drop];omega)]
    rw[hix]
    refine⟨⟨by omega,by omega⟩,?_⟩
    refine⟨fun h=>yq hS7 11 fun S8 hS8 _ _=>?_,fun h=>?_⟩
    all_goals first
     |have hS8:pI s0 S7 b most B BR (if D.1.getD 256 0=0 then D.2.fail 11 else D.2):=by rw[if_neg (by simpa using h)];exact hS7
     |simp -implicitDefEqProofs only[go_sem,Nat.reduceBEq,Nat.reduceAdd,Nat.reduceMul,Nat.reduceLeDiff,Nat.reduceEqDiff,Nat.reduceBNe,UInt8.reduceToNat,UInt32.reduceToNat,bL]
      replace hS8:pI s0 S8 b most B BR (if D.1.getD 256 0=0 then D.2.fail 11 else D.2):=by rw[if_pos (by simpa using h)];exact hS8
    all_goals
     refine⟨⟨by omega,by omega,by omega⟩,⟨by omega,by omega,by omega⟩,?_⟩
     rw[hp1,hp2]
     generalize(if D.1.getD 256 0=0 then D.2.fail 11 else D.2)=Z7 at*
     have c2:=yj (D.1.drop N.toNat) (kv (D.1.take N.toNat) Z7)
     refine qE hS8 rfl (fun S9 hS9 he9 ht9=>?_) (fun S9 t1 hS9 he9 ht9 hx9 hl9=>?_)
     ·simp -implicitDefEqProofs only[go_sem,Nat.reduceBEq,Nat.reduceAdd,Nat.reduceMul,Nat.reduceLeDiff,Nat.reduceEqDiff,Nat.reduceBNe,UInt8.reduceToNat,UInt32.reduceToNat,bL]
      refine qE hS9 rfl (fun S10 Pk Mf _=>?_) (fun S10 t2 Pk Mf _ _ _=>absurd (c2.2.2 Mf).1 he9)
      simp -implicitDefEqProofs only[go_sem,Nat.reduceBEq,Nat.reduceAdd,Nat.reduceMul,Nat.reduceLeDiff,Nat.reduceEqDiff,Nat.reduceBNe,UInt8.reduceToNat,UInt32.reduceToNat,bL]
      exact hq S10 _ _ Pk (fun _=>⟨.inl rfl,.inl rfl⟩) (fun e=>absurd e Mf)
     ·simp -implicitDefEqProofs only[go_sem,Nat.reduceBEq,Nat.reduceAdd,Nat.reduceMul,Nat.reduceLeDiff,Nat.reduceEqDiff,Nat.reduceBNe,UInt8.reduceToNat,UInt32.reduceToNat,bL]
      refine qE hS9 rfl (fun S10 Pk Mf _=>?_) (fun S10 t2 Pk Mf aie aij ah4=>?_)
      ·simp -implicitDefEqProofs only[go_sem,Nat.reduceBEq,Nat.reduceAdd,Nat.reduceMul,Nat.reduceLeDiff,Nat.reduceEqDiff,Nat.reduceBNe,UInt8.reduceToNat,UInt32.reduceToNat,bL]
       exact hq S10 _ _ Pk (fun _=>⟨.inr ⟨_,rfl⟩,.inl rfl⟩) (fun e=>absurd e Mf)
      ·simp -implicitDefEqProofs only[go_sem,Nat.reduceBEq,Nat.reduceAdd,Nat.reduceMul,Nat.reduceLeDiff,Nat.reduceEqDiff,Nat.reduceBNe,UInt8.reduceToNat,UInt32.reduceToNat,bL]
       exact hq S10 _ _ Pk (fun e=>absurd Mf e) (fun _=>⟨t1,t2,rfl,rfl,aie t1 hx9,aij,hl9,ah4⟩)
theorem Qt(hS:pI s0 s b most B BR z)(hb:b.length<72057594037927936)(hM:most<=16777216)(hz:ZI b most z)(hq:∀s',pI s0 s' b most B BR (zG b most z).2->Q [.bool (zG b most z).1] s'):FN prog 130 [.ref B 0] s Q:=by
 refine FO Ps rfl rfl ?_
 rw[Gs]
 conv in dec _=>reduce
 simp -implicitDefEqProofs only[go_sem,seval,bL]
 have p1:(2:Int)^1=2:=by decide
 have p2:(2:Int)^2=4:=by decide
 have h1:=db (b:=b) (n:=1) hz.1
 have h2:=db (b:=b) (n:=2) h1.1
 have hz1:ZI b most (aB (ag b) 1 z).2:=⟨h1.1,by rw[h1.2.2.2.2.1];exact hz.2⟩
 have hz2:ZI b most (aB (ag b) 2 (aB (ag b) 1 z).2).2:=⟨h2.1,by rw[h2.2.2.2.2.1];exact hz1.2⟩
 have hE:∀Zf,(if(aB (ag b) 2 (aB (ag b) 1 z).2).2.e≠0 then(aB (ag b) 2 (aB (ag b) 1 z).2).2 else if(aB (ag b) 2 (aB (ag b) 1 z).2).1=0 then Ej (ag b) most (aB (ag b) 2 (aB (ag b) 1 z).2).2 else if(aB (ag b) 2 (aB (ag b) 1 z).2).1=1 then vD (ag b) most mH mG (8*b.length+2) (aB (ag b) 2 (aB (ag b) 1 z).2).2 else if(aB (ag b) 2 (aB (ag b) 1 z).2).1=2 then JR b most (aB (ag b) 2 (aB (ag b) 1 z).2).2 else(aB (ag b) 2 (aB (ag b) 1 z).2).2.fail 11)=Zf->zG b most z=(decide ((aB (ag b) 1 z).1=1)||decide (Zf.e≠0),Zf):=by rintro _ rfl;rfl
 refine Am hS hb (n:=1) (by decide) hz fun s1 hS1 _ _=>?_
 simp -implicitDefEqProofs only[go_sem,seval,bL]
 refine Am hS1 hb (n:=2) (by decide) hz1 fun s2 hS2 _ _=>?_
 clear hS hS1 h1 hz1
 generalize aB (ag b) 1 z=n1 at*
 generalize aB (ag b) 2 n1.2=k at*
 have hB2:=hS2.hB
 simp -implicitDefEqProofs only[go_sem,seval,hB2,bL]
 have hq2:∀Zf,(if k.2.e≠0 then k.2 else if k.1=0 then Ej (ag b) most k.2 else if k.1=1 then vD (ag b) most mH mG (8*b.length+2) k.2 else if k.1=2 then JR b most k.2 else k.2.fail 11)=Zf->∀s',pI s0 s' b most B BR Zf->Q [.bool (n1.1==1||Zf.e !=0)] s':=fun Zf h s' hs=>by
  have e1:(Zf.e !=0)=decide (Zf.e≠0):=by rw[Bool.eq_iff_iff];simp
  have e2:(n1.1==1)=decide (n1.1=1):=rfl
  rw[hE Zf h]at hq
  rw[e1,e2]
  exact hq s' hs
 clear hE hq
 refine⟨fun he=>?_,fun he=>⟨fun h0=>?_,fun h0=>⟨fun h1=>?_,fun h1=>⟨fun h2=>?_,fun h2=>?_⟩⟩⟩⟩
 ·exact hq2 _ (if_pos (by simpa using he)) _ hS2
 ·have he:¬k.2.e≠0:=by simpa using he
  refine P9 hS2 hb hM hz2 fun S hS=>?_
  have hB:=hS.hB
  simp -implicitDefEqProofs only[go_sem,seval,hB,bL]
  exact hq2 _ (by rw[if_neg he,if_pos (by simpa using h0)]) _ hS
 ·have he:¬k.2.e≠0:=by simpa using he
  have h3:=Zh
  refine FE.app Zg ?_
  simp -implicitDefEqProofs only[go_sem,seval,bL]
  have he0:k.2.e=0:=by simpa using he
  have kL:kv mH k.2=k.2:=by unfold kv;rw[if_neg (by omega)]
  have kD:kv mG k.2=k.2:=by unfold kv;rw[if_neg (by omega)]
  refine qE hS2 sQ (fun S _ he2 _=>absurd he0 (by rw[kL]at he2;exact he2)) (fun S t hS _ _ hx hl=>?_)
  rw[kL]at hS
  simp -implicitDefEqProofs only[go_sem,seval,bL]
  refine qE hS (show mG.length=30 from rfl) (fun S _ he2 _=>absurd he0 (by rw[kD]at he2;exact he2)) (fun S4 d hS4 _ hx2 hd hld=>?_)
  rw[kD]at hS4
  simp -implicitDefEqProofs only[go_sem,seval,bL]
  refine JH hS4 hb hM hz2 (hx2 t hx) hd fun S5 hS5=>?_
  have hB:=hS5.hB
  simp -implicitDefEqProofs only[go_sem,seval,hB,bL]
  refine hq2 _ ?_ _ hS5
  rw[if_neg he,if_neg (by simpa using h0),if_pos (by simpa using h1),hl,hld]
 ·have he:¬k.2.e≠0:=by simpa using he
  have pk:∀S,pI s0 S b most B BR (JR b most k.2)->Q [.bool (n1.1==1||(JR b most k.2).e !=0)] S:=fun S h=>hq2 _ (by rw[if_neg he,if_neg (by simpa using h0),if_neg (by simpa using h1),if_pos (by simpa using h2)]) _ h
  refine Qc hS2 hb hz2 fun S p q hS hp ht=>?_
  have hZ:=(NF hz2).1
  have e0:JR b most k.2=vD (ag b) most (lP (ag b) k.2).1 (lP (ag b) k.2).2.1 (8*b.length+2) (lP (ag b) k.2).2.2:=rfl
  rw[e0]at pk
  clear e0 hq2
  generalize lP (ag b) k.2=T at hZ pk hS hp ht
  obtain⟨T1,T2,T3⟩:=T
  dsimp only at hZ pk hS hp ht
  by_cases hd:T3.e=0
  ·obtain⟨t,d,rfl,rfl,h3,h4,h5,h6⟩:=ht hd
   subst h5 h6
   simp -implicitDefEqProofs only[go_sem,seval,bL]
   refine JH hS hb hM hZ h3 h4 fun S5 hS5=>?_
   have hB:=hS5.hB
   simp -implicitDefEqProofs only[go_sem,seval,hB,bL]
   exact pk _ hS5
  ·rw[YY hd]at pk
   have hB:=hS.hB
   obtain⟨hp1,hp2⟩:=hp hd
   have hp3:=hp1
   have hp4:=hp2
   rcases hp1 with rfl|⟨x,rfl⟩<;>rcases hp2 with rfl|⟨y,rfl⟩
   all_goals
    simp -implicitDefEqProofs only[go_sem,seval,bL]
    refine UE hS hd hp3 hp4 ?_
    simp -implicitDefEqProofs only[go_sem,seval,hB,bL]
    exact pk _ hS
 ·have he:¬k.2.e≠0:=by simpa using he
  refine yq hS2 11 fun S hS _ _=>?_
  have hB:=hS.hB
  simp -implicitDefEqProofs only[go_sem,seval,hB,bL]
  exact hq2 _ (by rw[if_neg he,if_neg (by simpa using h0),if_neg (by simpa using h1),if_neg (by simpa using h2)]) _ hS
end
def muI(b:List UInt8)(BR:Nat)(τ:St):Nat:=match τ.s BR with|some (.cells (.int .i64 n::_))=>(8*b.length -n).toNat|_=>0
theorem ZF{b:List UInt8}{most:Int}{s:ae}{ow:Bool}{Q:List AV->ae->Prop}(hb:b.length<140737488355328)(hm1:-9223372036854775808<=most)(hm2:most<=9223372036854775807)(hq:∀s' w,Sub s s'->Q [.sl w 1 (re b most).1.length (flat (re b most).1),.int .i64 (re b most).2.1,.int .i64 (re b most).2.2] s'):FN prog 83 [.sl ow 1 b.length (flat b),.int .i64 most] s Q:=by
 have cf:room=140737488355328:=rfl
 refine FO Kr rfl rfl ?_
 rw[AS]
 conv in dec _=>reduce
 simp -implicitDefEqProofs only[go_sem,Nat.reduceBEq,Nat.reduceAdd,Nat.reduceMul,Nat.reduceLeDiff,Nat.reduceEqDiff,Nat.reduceBNe,UInt8.reduceToNat,UInt32.reduceToNat,bL]
 refine⟨fun hc=>?_,fun hc=>?_⟩
 ·have e:re b most=([],0,2):=if_pos (by simpa using hc)
  rw[e]at hq
  exact hq s _ fun _ _ h=>h
 ·have hc:¬(most<0\/most>16777216):=by simpa using hc
  refine Wr (by omega) fun BR hBR=>?_
  simp -implicitDefEqProofs only[go_sem,Nat.reduceBEq,Nat.reduceAdd,Nat.reduceMul,Nat.reduceLeDiff,Nat.reduceEqDiff,Nat.reduceBNe,UInt8.reduceToNat,UInt32.reduceToNat,bL]
  intro B hB
  have hne:B≠BR:=fun e=>by subst e;rw[ch]at hB;cases hB
  have hB0:s B=none:=by rw[ah hne]at hB;exact hB
  have hS:pI s ((s.set BR (.cells [.int .i64 0,.bool false,.bool true,.sl false 1 b.length (flat b)])).set B (.cells [.ref BR 0,.int .i64 0,.sl true 1 0 [],.int .i64 most])) b most B BR ⟨0,0,[]⟩:=by
   refine⟨hB0,hBR,hne,fun x o hx=>?_,ch,(ah hne.symm).trans ch⟩
   have h1:x≠B:=fun e=>by subst e;rw[hB0]at hx;cases hx
   have h2:x≠BR:=fun e=>by subst e;rw[hBR]at hx;cases hx
   rw[ah h1,ah h2];exact hx
  have hZ0:ZI b most ⟨0,0,[]⟩:=⟨Nat.zero_le _,by simp;omega⟩
  refine⟨fun τ=>∃S Z f,pI s S b most B BR Z/\ZI b most Z/\8*b.length+2<=f+Z.at_/\zQ b most f Z=zQ b most (8*b.length+2) ⟨0,0,[]⟩/\τ=⟨[(7,.ref B 0)],[],S⟩,muI b BR,⟨_,_,_,hS,hZ0,by simp,rfl,rfl⟩,?_⟩
  clear hS hZ0 hB hBR hB0
  rintro τ ⟨S,Z,f,hS,hZ,hf,hI,rfl⟩
  obtain⟨f,rfl⟩:∃g,f=g+1:=⟨f -1,by have:=hZ.1;omega⟩
  rw[zQ]at hI
  have hk:=Nn hZ
  have hV:re b most=if(zQ b most (8*b.length+2) ⟨0,0,[]⟩).e≠0 then([],0,(zQ b most (8*b.length+2) ⟨0,0,[]⟩).e)else((zQ b most (8*b.length+2) ⟨0,0,[]⟩).out,((((zQ b most (8*b.length+2) ⟨0,0,[]⟩).at_+7)/8:Nat):Int),0):=if_neg hc
  have hmu:∀S1 Z1 e,pI s S1 b most B BR Z1->muI b BR ⟨e,[],S1⟩=8*b.length -Z1.at_:=fun S1 Z1 e h=>by
   unfold muI
   dsimp only
   rw[h.hR]
   show((8*b.length:Nat) -(Z1.at_:Int):Int).toNat=_
   omega
  have m0:=hmu S Z [(7,.ref B 0)] hS
  simp -implicitDefEqProofs only[go_sem,Nat.reduceBEq,Nat.reduceAdd,Nat.reduceMul,Nat.reduceLeDiff,Nat.reduceEqDiff,Nat.reduceBNe,UInt8.reduceToNat,UInt32.reduceToNat,bL]
  refine Qt hS (by omega) (by omega) hZ fun S2 hS2=>?_
  simp -implicitDefEqProofs only[go_sem,Nat.reduceBEq,Nat.reduceAdd,Nat.reduceMul,Nat.reduceLeDiff,Nat.reduceEqDiff,Nat.reduceBNe,UInt8.reduceToNat,UInt32.reduceToNat,bL]
  generalize hL:zQ b most (8*b.length+2) ⟨0,0,[]⟩=L at*
  generalize zG b most Z=W at*
  obtain⟨w,Z2⟩:=W
  dsimp only at hI hk hS2
  cases w with
  |false=>
   have h3:=hk.2.2 rfl
   rw[if_neg Bool.false_ne_true]at hI
   have m1:=hmu S2 Z2 [(7,.ref B 0)] hS2
   have h4:=hk.1.1
   simp -implicitDefEqProofs only[go_sem,Nat.reduceBEq,Nat.reduceAdd,Nat.reduceMul,Nat.reduceLeDiff,Nat.reduceEqDiff,Nat.reduceBNe,UInt8.reduceToNat,UInt32.reduceToNat,bL]
   refine⟨⟨_,_,_,hS2,hk.1,by omega,hI,rfl⟩,?_⟩
   rw[m0,m1];omega
  |true=>
   rw[if_pos rfl]at hI
   subst hI
   have hB:=hS2.hB
   have hR:=hS2.hR
   simp -implicitDefEqProofs only[go_sem,Nat.reduceBEq,Nat.reduceAdd,Nat.reduceMul,Nat.reduceLeDiff,Nat.reduceEqDiff,Nat.reduceBNe,UInt8.reduceToNat,UInt32.reduceToNat,hB,bL]
   refine⟨fun he=>?_,fun he=>?_⟩
   ·rw[if_pos (by simpa using he)]at hV
    rw[hV]at hq
    exact hq S2 _ hS2.sub
   ·rw[if_neg (by simpa using he)]at hV
    rw[hV]at hq
    have h4:=hk.1.1
    have hA:iR (BH b Z2).Reader=some (Z2.at_:Int):=by
     unfold iR bJ
     simp only[Bool.false_or,Bool.not_true,aJ,Bool.false_eq_true,if_false]
    refine⟨[.int .i64 (Z2.at_:Int)],rfl,x7 hR hA,?_⟩
    have e1:aw ((Z2.at_:Int)+7)=(Z2.at_:Int)+7:=ar (by omega) (by omega)
    have e2:aw (((Z2.at_:Int)+7).tdiv 8)=(((Z2.at_+7)/8:Nat):Int):=by
     have e3:((Z2.at_:Int)+7).tdiv 8=(((Z2.at_+7)/8:Nat):Int):=by rw[Int.tdiv_eq_ediv_of_nonneg (by omega)];omega
     rw[e3,ar (by omega) (by omega)]
    simp -implicitDefEqProofs only[go_sem,Nat.reduceBEq,Nat.reduceAdd,Nat.reduceMul,Nat.reduceLeDiff,Nat.reduceEqDiff,Nat.reduceBNe,UInt8.reduceToNat,UInt32.reduceToNat,e1,e2,bL]
    exact⟨by decide,hq S2 _ hS2.sub⟩
def Ko:IC:=dec 0x41461efc49fd583153902e78718bc
def Kp:IC:=dec 0x7ffbfe1121e96ebd1a4c4faedef451113b472e2a6f91bcb76bd55021e6afd1c06cbbea34843863bb1d905ac7a06b5622760250278189ff973b6146c3cc447337be230559679bda66c6f86fa77a03851ce29f9e5447b85520694510cea225b7d7218f1a877b9fd3f9df820236fd6c7437467a70054e2b8888053353c860a8e61f3e2b1e7a1e9cbb4a7c9de69abd49cedef5e121434f2c527bdb4f73822c28a888fc348f19ea70c69a9aed098a420cd90a5b0cee9f81155f702f6c1a8d917b1e849538ee425e8ee939f6dee8aa3a03390b8de1d95df8a6b14da3912007992312bea7e2bd848956ce3636c774cc792f95c7a63cd7f2c466d1b839e7d074a627
def D5:List lu:=[⟨4,false,some (1,false)⟩,⟨5,false,some (1,false)⟩,⟨6,false,some (1,false)⟩]
theorem Vw:Q9 prog 42 55 D5 Ko 81 [4,5,6] Kp=true:=by kernel_rfl
def Kn:IC:=dec 0x311215904b49e9dc64f8d5ba9932b969f247130593e8f59dbc9441ad
theorem RT:aS prog 81 14 [] Kn=true:=by kernel_rfl
section
variable{b:List UInt8}{most:Int}
theorem NW:∀(f:Nat)(Z:ZS),ZI b most Z->ZI b most (zQ b most f Z)
 |0,_,h=>h
 |f+1,Z,h=>by
  rw[zQ]
  have hk:=(Nn h).1
  split
  ·exact hk
  ·exact NW f _ hk
theorem Vd:(re b most).1.length<=16777216/\0<=(re b most).2.1/\(re b most).2.1<=b.length:=by
 unfold re
 split
 ·exact⟨Nat.zero_le _,Int.le_refl _,by show(0:Int)<=_;omega⟩
 ·rename_i hc
  have h:=NW (b:=b) (most:=most) (8*b.length+2) ⟨0,0,[]⟩ ⟨Nat.zero_le _,by simp;omega⟩
  generalize zQ b most (8*b.length+2) ⟨0,0,[]⟩=Z at h
  obtain⟨h1,h2⟩:=h
  dsimp only
  split
  ·exact⟨Nat.zero_le _,Int.le_refl _,by show(0:Int)<=_;omega⟩
  ·dsimp only
   omega
theorem U5(h:Rp b=0):2<=b.length:=by
 unfold Rp at h
 split at h
 ·simp
 ·cases h
end
structure Ly(s S:ae)(b4 b5 b6:Nat)(l:List UInt8)(n e:Int):Prop where
 n4:s b4=none
 n5:s b5=none
 n6:s b6=none
 d45:b4≠b5
 d46:b4≠b6
 d56:b5≠b6
 sub:Sub s S
 h4:∃w,S b4=some (.cells [.sl w 1 l.length (flat l)])
 h5:S b5=some (.cells [.int .i64 n])
 h6:S b6=some (.cells [.int .i64 e])
section
variable{s S S':ae}{b4 b5 b6:Nat}{l:List UInt8}{n e:Int}{Q:List AV->ae->Prop}
theorem Ly.FF(h:Ly s S b4 b5 b6 l n e)(e':Int):Ly s (S.set b6 (.cells [.int .i64 e'])) b4 b5 b6 l n e':=
 ⟨h.n4,h.n5,h.n6,h.d45,h.d46,h.d56,fun x o hx=>by
   have:x≠b6:=fun e=>by subst e;rw[h.n6]at hx;cases hx
   rw[ah this];exact h.sub x o hx,by rw[ah h.d46];exact h.h4,by rw[ah h.d56];exact h.h5,ch⟩
theorem Ly.FD(h:Ly s S b4 b5 b6 l n e)(n':Int):Ly s (S.set b5 (.cells [.int .i64 n'])) b4 b5 b6 l n' e:=
 ⟨h.n4,h.n5,h.n6,h.d45,h.d46,h.d56,fun x o hx=>by
   have:x≠b5:=fun e=>by subst e;rw[h.n5]at hx;cases hx
   rw[ah this];exact h.sub x o hx,by rw[ah h.d45];exact h.h4,ch,by rw[ah h.d56.symm];exact h.h6⟩
theorem Ly.IW(h:Ly s S b4 b5 b6 l n e)(w:Bool)(l':List UInt8):Ly s (S.set b4 (.cells [.sl w 1 l'.length (flat l')])) b4 b5 b6 l' n e:=
 ⟨h.n4,h.n5,h.n6,h.d45,h.d46,h.d56,fun x o hx=>by
   have:x≠b4:=fun e=>by subst e;rw[h.n4]at hx;cases hx
   rw[ah this];exact h.sub x o hx,⟨w,ch⟩,by rw[ah h.d45.symm];exact h.h5,by rw[ah h.d46.symm];exact h.h6⟩
theorem Ly.more(h:Ly s S b4 b5 b6 l n e)(hs:Sub S S'):Ly s S' b4 b5 b6 l n e:=⟨h.n4,h.n5,h.n6,h.d45,h.d46,h.d56,fun x o hx=>hs _ _ (h.sub x o hx),by obtain⟨w,h4⟩:=h.h4;exact⟨w,hs _ _ h4⟩,hs _ _ h.h5,hs _ _ h.h6⟩
theorem VS(h:Ly s S b4 b5 b6 l n e)(hq:∀s',Ly s s' b4 b5 b6 (if e≠0 then[]else l) (if e≠0 then 0 else n) e->Q [] s'):FND prog 81 [.ref b4 0,.ref b5 0,.ref b6 0] S Q:=by
 refine FND.of (kA mix) RT rfl (Nat.le_of_ble_eq_true rfl) ?_
 rw[Kn]
 conv in dec _=>reduce
 obtain⟨w,h4⟩:=h.h4
 have h5:=h.h5
 have h6:=h.h6
 simp -implicitDefEqProofs only[go_sem,seval,h6,h4,h5,ah h.d45,ah h.d45.symm,bL]
 refine⟨fun he=>?_,fun he=>?_⟩
 ·have he:e≠0:=by simpa using he
  rw[if_pos he,if_pos he]at hq
  exact hq _ ((h.IW true []).FD 0)
 ·have he:¬e≠0:=by simpa using he
  rw[if_neg he,if_neg he]at hq
  exact hq _ h
end
theorem abv{b:List UInt8}{most:Int}{s:ae}{ow:Bool}{Q:List AV->ae->Prop}(hb:b.length<140737488355328)(hm1:-9223372036854775808<=most)(hm2:most<=9223372036854775807)(hq:∀s',Sub s s'->Q [.sl false 1 (wc b most).1.length (flat (wc b most).1),.int .i64 (wc b most).2.1,.int .i64 (wc b most).2.2] s'):FN prog 42 [.sl ow 1 b.length (flat b),.int .i64 most] s Q:=by
 refine FN.ofD (kA mix) Vw rfl (Nat.le_of_ble_eq_true rfl) ?_
 rw[Ko]
 conv in dec _=>reduce
 simp -implicitDefEqProofs only[go_sem,Nat.reduceBEq,Nat.reduceAdd,Nat.reduceMul,Nat.reduceLeDiff,Nat.reduceEqDiff,Nat.reduceBNe,UInt8.reduceToNat,UInt32.reduceToNat,bL]
 intro b4 n4 b5 n5 b6 n6
 refine⟨[b4,b5,b6],rfl,?_⟩
 have d45:b4≠b5:=fun e=>by subst e;rw[ch]at n5;cases n5
 have d56:b5≠b6:=fun e=>by subst e;rw[ch]at n6;cases n6
 rw[ah d56.symm]at n6
 have d46:b4≠b6:=fun e=>by subst e;rw[ch]at n6;cases n6
 rw[ah d46.symm]at n6
 rw[ah d45.symm]at n5
 have hU:Ly s (((s.set b4 (.cells [.sl true 1 0 []])).set b5 (.cells [.int .i64 0])).set b6 (.cells [.int .i64 0])) b4 b5 b6 [] 0 0:=by
  refine⟨n4,n5,n6,d45,d46,d56,fun x o hx=>?_,⟨true,by rw[ah d46,ah d45,ch];rfl⟩,by rw[ah d56,ch],ch⟩
  have h1:x≠b4:=fun e=>by subst e;rw[n4]at hx;cases hx
  have h2:x≠b5:=fun e=>by subst e;rw[n5]at hx;cases hx
  have h3:x≠b6:=fun e=>by subst e;rw[n6]at hx;cases hx
  rw[ah h3,ah h2,ah h1];exact hx
 generalize((s.set b4 (.cells [.sl true 1 0 []])).set b5 (.cells [.int .i64 0])).set b6 (.cells [.int .i64 0])=S at hU⊢
 clear n4 n5 n6
 have fin:∀(S:ae)(l:List UInt8)(n e:Int),Ly s S b4 b5 b6 l n e->wc b most=(if e≠0 then[]else l,if e≠0 then 0 else n,e)->Wu prog 81 [b4,b5,b6] D5 Q .ret ⟨[(4,.ref b4 0),(5,.ref b5 0),(6,.ref b6 0)],[],S⟩:=by
  intro S l n e h hv
  refine VS h fun s' h'=>?_
  obtain⟨w,h4⟩:=h'.h4
  have h5:=h'.h5
  have h6:=h'.h6
  rw[hv]at hq
  rw[D5]
  simp -implicitDefEqProofs only[go_sem,Nat.reduceBEq,Nat.reduceAdd,Nat.reduceMul,Nat.reduceLeDiff,Nat.reduceEqDiff,Nat.reduceBNe,UInt8.reduceToNat,UInt32.reduceToNat,h4,h5,h6,bL]
  exact hq s' h'.sub
 have h5:=hU.h5
 have h6:=hU.h6
 obtain⟨w,h4⟩:=hU.h4
 rw[Kp]
 conv in dec _=>reduce
 simp -implicitDefEqProofs only[go_sem,Nat.reduceBEq,Nat.reduceAdd,Nat.reduceMul,Nat.reduceLeDiff,Nat.reduceEqDiff,Nat.reduceBNe,UInt8.reduceToNat,UInt32.reduceToNat,h4,h5,h6,ah d45,ah d45.symm,ah d46,ah d46.symm,ah d56,ah d56.symm,bL]
 refine⟨fun hc=>fin _ [] 0 2 (((hU.IW true []).FD 0).FF 2) (by rw[wc,if_pos (by simpa using hc)];rfl),fun hc=>?_⟩
 have hc:¬(most<0\/most>16777216):=by simpa using hc
 refine FE.app (FR (ae7 b)) ?_
 simp -implicitDefEqProofs only[go_sem,Nat.reduceBEq,Nat.reduceAdd,Nat.reduceMul,Nat.reduceLeDiff,Nat.reduceEqDiff,Nat.reduceBNe,UInt8.reduceToNat,UInt32.reduceToNat,h4,h5,h6,ah d45,ah d45.symm,ah d46,ah d46.symm,ah d56,ah d56.symm,bL]
 refine⟨fun he=>?_,fun he=>?_⟩
 ·have he:Rp b≠0:=by simpa using he
  exact fin _ [] 0 (Rp b) ((((hU.FF _).IW true []).FD 0).FF (Rp b)) (by rw[wc,if_neg hc,if_pos he,if_pos he,if_pos he])
 have he:Rp b=0:=by simpa using he
 have hl:=U5 he
 have hU1:=hU.FF (Rp b)
 generalize S.set b6 (.cells [.int .i64 (Rp b)])=S1 at hU1⊢
 clear h4 h5 h6 hU
 have hp:part b 2 (b.length:Int)=b.drop 2:=by
  unfold part
  rw[List.take_of_length_le (by rw[List.length_drop];omega)];rfl
 rw[hp]
 refine⟨⟨by omega,by omega⟩,?_⟩
 have hvl:=Vd (b:=b.drop 2) (most:=most)
 rw[List.length_drop]at hvl
 have hv:wc b most=if(re (b.drop 2) most).2.2≠0 then([],0,(re (b.drop 2) most).2.2)else if(b.length:Int)<(re (b.drop 2) most).2.1+6 then([],0,10)else if(b.drop ((re (b.drop 2) most).2.1+2).toNat).take 4≠YK (Na (re (b.drop 2) most).1)then([],0,12)else((re (b.drop 2) most).1,(re (b.drop 2) most).2.1+6,0):=by rw[wc,if_neg hc,if_neg (by simpa using he)]
 refine ZF (by rw[List.length_drop];omega) hm1 hm2 fun S2 w2 hs2=>?_
 have hU2:=hU1.more hs2
 clear hU1 hs2 hp
 generalize re (b.drop 2) most=r at hv hvl⊢
 obtain⟨l,m,e⟩:=r
 dsimp only at hv hvl
 have h5:=hU2.h5
 have h6:=hU2.h6
 obtain⟨w3,h4⟩:=hU2.h4
 have e1:aw (m+2)=m+2:=ar (by omega) (by omega)
 have e2:aw (m+2+4)=m+2+4:=ar (by omega) (by omega)
 have e3:aw ((b.length:Int) -(m+2))=(b.length:Int) -(m+2):=ar (by omega) (by omega)
 simp -implicitDefEqProofs only[go_sem,Nat.reduceBEq,Nat.reduceAdd,Nat.reduceMul,Nat.reduceLeDiff,Nat.reduceEqDiff,Nat.reduceBNe,UInt8.reduceToNat,UInt32.reduceToNat,h4,h5,h6,e1,e2,e3,ah d45,ah d45.symm,ah d46,ah d46.symm,ah d56,ah d56.symm,bL]
 refine⟨fun he=>?_,fun he=>?_⟩
 ·have he:e≠0:=by simpa using he
  exact fin _ l m e ((((((hU2.IW _ l).FD m).FF e).IW _ l).FD m).FF e) (by rw[hv,if_pos he,if_pos he,if_pos he])
 have he:e=0:=by simpa using he
 rw[if_neg (by simpa using he)]at hv
 subst he
 have hUa:=(((hU2.IW false l).FD m).FF 0).FD (m+2)
 refine⟨fun hlt=>?_,fun hlt=>?_⟩
 ·have hlt:(b.length:Int)<m+6:=by have:=of_decide_eq_true hlt;omega
  exact fin _ l (m+2) 10 (((hUa.IW false l).FD (m+2)).FF 10) (by rw[hv,if_pos hlt];rfl)
 have hlt:¬(b.length:Int)<m+6:=by have:=of_decide_eq_false hlt;omega
 rw[if_neg hlt]at hv
 have hp:part b (m+2) (m+2+4)=(b.drop (m+2).toNat).take 4:=by
  unfold part
  rw[show(m+2+4 -(m+2)).toNat=4 by omega]
 rw[hp]
 refine⟨⟨by omega,by omega,by omega⟩,_,rfl,Hh (aaF l (by omega)),?_⟩
 simp -implicitDefEqProofs only[go_sem,Nat.reduceBEq,Nat.reduceAdd,Nat.reduceMul,Nat.reduceLeDiff,Nat.reduceEqDiff,Nat.reduceBNe,UInt8.reduceToNat,UInt32.reduceToNat,h4,h5,h6,e1,e2,e3,ah d45,ah d45.symm,ah d46,ah d46.symm,ah d56,ah d56.symm,bL]
 refine⟨_,rfl,B7 (aaH _),?_⟩
 simp -implicitDefEqProofs only[go_sem,Nat.reduceBEq,Nat.reduceAdd,Nat.reduceMul,Nat.reduceLeDiff,Nat.reduceEqDiff,Nat.reduceBNe,UInt8.reduceToNat,UInt32.reduceToNat,h4,h5,h6,e1,e2,e3,ah d45,ah d45.symm,ah d46,ah d46.symm,ah d56,ah d56.symm,bL]
 refine⟨_,rfl,Cd (r:=((aH.mk ((b.drop (m+2).toNat).take 4)).b==(aH.mk (YK (Na l))).b)) rfl,?_⟩
 simp -implicitDefEqProofs only[go_sem,Nat.reduceBEq,Nat.reduceAdd,Nat.reduceMul,Nat.reduceLeDiff,Nat.reduceEqDiff,Nat.reduceBNe,UInt8.reduceToNat,UInt32.reduceToNat,h4,h5,h6,e1,e2,e3,ah d45,ah d45.symm,ah d46,ah d46.symm,ah d56,ah d56.symm,bL]
 refine⟨fun hne=>?_,fun hne=>?_⟩
 ·have hne:(b.drop (m+2).toNat).take 4≠YK (Na l):=by simpa using hne
  exact fin _ l (m+2) 12 (((hUa.IW false l).FD (m+2)).FF 12) (by rw[hv,if_pos hne];rfl)
 ·have hne:¬(b.drop (m+2).toNat).take 4≠YK (Na l):=by simpa using hne
  exact fin _ l (m+2+4) 0 (((hUa.IW false l).FD (m+2+4)).FF 0) (by rw[hv,if_neg hne,show m+6=m+2+4 by omega];rfl)
theorem abu{b:List UInt8}{most:Int}{s:ae}{ow:Bool}(hb:b.length<140737488355328)(hm1:-9223372036854775808<=most)(hm2:most<=9223372036854775807):FE prog 42 [.sl ow 1 b.length (flat b),.int .i64 most] s [.sl false 1 (wc b most).1.length (flat (wc b most).1),.int .i64 (wc b most).2.1,.int .i64 (wc b most).2.2] s:=FN.Lt (abv hb hm1 hm2 fun s' h=>⟨s,h,rfl,rfl⟩)
def jc(b:List UInt8)(most:Int):Option (List UInt8×Int×Int):=aL (b.length<140737488355328/\-9223372036854775808<=most/\most<=9223372036854775807) (some (wc b most))
theorem EB{b:List UInt8}{most:Int}{s:ae}{r:List UInt8×Int×Int}(h:jc b most=some r):FE prog 42 [.sl false 1 b.length (flat b),.int .i64 most] s [.sl false 1 r.1.length (flat r.1),.int .i64 r.2.1,.int .i64 r.2.2] s:=by
 unfold jc aL at h
 split at h
 ·rename_i hc
  injection h with h
  subst h
  exact abu hc.1 hc.2.1 hc.2.2
 ·cases h
set_option maxRecDepth 4000
abbrev rC(b:List UInt8)(most:Int)(z:ZS):List AV:=[.sl false 1 (ag b).length (flat (ag b)),.int .i64 (z.at_:Int),.int .i64 z.e,.sl true 1 z.out.length (flat z.out),.int .i64 most]
structure RI(s0 s:ae)(b:List UInt8)(most:Int)(B:Nat)(z:ZS):Prop where
 n0:s0 B=none
 sub:Sub s0 s
 hB:s B=some (.cells (rC b most z))
section
variable{s0 s:ae}{b:List UInt8}{most:Int}{B:Nat}{z:ZS}{Q:List AV->ae->Prop}
theorem RI.Lq(h:RI s0 s b most B z)(z':ZS):RI s0 (s.set B (.cells (rC b most z'))) b most B z':=by
 refine⟨h.n0,fun x o hx=>?_,ch⟩
 have h1:x≠B:=fun e=>by subst e;rw[h.n0]at hx;cases hx
 rw[ah h1]
 exact h.sub _ _ hx
theorem RI.off{s':ae}(h:RI s0 s b most B z){y:Nat}(hy:s0 y=none)(h1:y≠B)(hs:∀x,x≠y->s' x=s x):RI s0 s' b most B z:=
 ⟨h.n0,fun x o hx=>by
   have:x≠y:=fun e=>by subst e;rw[hy]at hx;cases hx
   rw[hs x this];exact h.sub x o hx,by rw[hs B h1.symm];exact h.hB⟩
end
end Go.AB
end
section
set_option maxRecDepth 16000
namespace Go.AB
open Go
open Go.Proofs.Tryz (prog)
attribute[-go_sem] ck cN bK cj Nat.add_zero pj cT
mutual
def gW:Nat->(List UInt8)->bz->Bool->Int->Option (aa×Int×Int)
 |0,_,_,_,_=>none
 |fuel+1,b_0,t_1,aM,deep_3=>
  if t_1.Kind==0 then
   some ((aa.mk 0 0 (aH.mk []) ([]:List aa)),0,10)
  else
   if(t_1.Kind==2)||(t_1.Kind==4)then
    if decide (deep_3>=64)then
     some ((aa.mk 0 0 (aH.mk []) ([]:List aa)),0,15)
    else
     if t_1.Kind==2 then
      aP (A6 fuel b_0 t_1.To aM (aw (deep_3+1))) fun r1=>
      some (r1.1,r1.2.1,r1.2.2)
     else
      aP (D3 fuel b_0 t_1.To aM (aw (deep_3+1))) fun r2=>
      some (r2.1,r2.2.1,r2.2.2)
   else
    if(t_1.Kind==3)||(t_1.Kind==5)then
     some ((aa.mk 0 0 (aH.mk []) ([]:List aa)),0,11)
    else
     uY (
      if t_1.Kind==6 then
       if t_1.S.b==(aH.mk [116,114,117,101]).b then
        some (.inl (aa.mk 1 1 (aH.mk []) ([]:List aa)))
       else
        if t_1.S.b==(aH.mk [102,97,108,115,101]).b then
         some (.inl (aa.mk 1 0 (aH.mk []) ([]:List aa)))
        else
         if t_1.S.b==(aH.mk [110,117,108,108]).b then
          some (.inl (aa.mk 0 0 (aH.mk []) ([]:List aa)))
         else
          some (.inr ((0:Int),(11:Int)))
      else
       some (.inl t_1.V)) (fun(v9:aa)=>
      uY (
       aP (A8 t_1) fun r22=>
       if r22 then
        aP (PQ b_0 t_1.To aM v9.N) fun r23=>
        if r23.2.2 !=0 then
         some (.inr ((0:Int),r23.2.2))
        else
         if r23.1 then
          some (.inl ((aa.mk 8 v9.N (aH.mk []) ([]:List aa)),r23.2.1))
         else
          some (.inl (v9,t_1.To))
       else
        some (.inl (v9,t_1.To))) (fun((v17,ahA):aa×Int)=>
       if decide (deep_3>=64)then
        some ((aa.mk 0 0 (aH.mk []) ([]:List aa)),0,15)
       else
        some (v17,ahA,0))
      (fun((t20,t21):Int×Int)=>some ((aa.mk 0 0 (aH.mk []) ([]:List aa)),t20,t21)))
     (fun((t12,t13):Int×Int)=>some ((aa.mk 0 0 (aH.mk []) ([]:List aa)),t12,t13))
def A6:Nat->(List UInt8)->Int->Bool->Int->Option (aa×Int×Int)
 |0,_,_,_,_=>none
 |fuel+1,b_0,bq,aM,deep_3=>
  uY (
   m5 (
    iter (fun((at5,l6,n7):Int×(List aa)×Int)=>
     if decide (n7<=(b_0.length:Int))then
      aP (og b_0 at5 aM) fun r12=>
      if r12.2 !=0 then
       some (.inr (.inr ((aa.mk 0 0 (aH.mk []) ([]:List aa)),(0:Int),r12.2)))
      else
       if r12.1.Kind==3 then
        some (.inr (.inr ((aa.mk 6 0 (aH.mk []) l6),r12.1.To,(0:Int))))
       else
        aP (gW fuel b_0 r12.1 aM deep_3) fun r13=>
        if r13.2.2 !=0 then
         some (.inr (.inr ((aa.mk 0 0 (aH.mk []) ([]:List aa)),(0:Int),r13.2.2)))
        else
         aL ((l6.length+[r13.1].length)*56<=room)<|
         some (.inl (r13.2.1,l6++[r13.1],aw (n7+1)))
     else
      some (.inr (.inl ()))) (bq,([]:List aa),0)) (fun(_:Unit)=>
    some (.inl ()))
   (fun((t9,t10,t11):aa×Int×Int)=>some (.inr (t9,t10,t11)))) (fun(_:Unit)=>
   some ((aa.mk 0 0 (aH.mk []) ([]:List aa)),0,10))
  (fun((t2,t3,t4):aa×Int×Int)=>some (t2,t3,t4))
def D3:Nat->(List UInt8)->Int->Bool->Int->Option (aa×Int×Int)
 |0,_,_,_,_=>none
 |fuel+1,b_0,bq,aM,deep_3=>
  uY (
   m5 (
    iter (fun((at5,d6,Nd,n8):Int×aa×Bool×Int)=>
     if decide (n8<=(b_0.length:Int))then
      aP (og b_0 at5 aM) fun r13=>
      if r13.2 !=0 then
       some (.inr (.inr ((aa.mk 0 0 (aH.mk []) ([]:List aa)),(0:Int),r13.2)))
      else
       if r13.1.Kind==5 then
        if Nd then
         some (.inr (.inr ((aa.mk 0 0 (aH.mk []) ([]:List aa)),(0:Int),(16:Int))))
        else
         some (.inr (.inr (d6,r13.1.To,(0:Int))))
       else
        if r13.1.Kind==0 then
         some (.inr (.inr ((aa.mk 0 0 (aH.mk []) ([]:List aa)),(0:Int),(10:Int))))
        else
         if(r13.1.Kind !=1)||(r13.1.V.Kind !=5)then
          some (.inr (.inr ((aa.mk 0 0 (aH.mk []) ([]:List aa)),(0:Int),(11:Int))))
         else
          if decide (deep_3>=64)then
           some (.inr (.inr ((aa.mk 0 0 (aH.mk []) ([]:List aa)),(0:Int),(15:Int))))
          else
           aP (og b_0 r13.1.To aM) fun r14=>
           if r14.2 !=0 then
            some (.inr (.inr ((aa.mk 0 0 (aH.mk []) ([]:List aa)),(0:Int),r14.2)))
           else
            aP (gW fuel b_0 r14.1 aM deep_3) fun r15=>
            if r15.2.2 !=0 then
             some (.inr (.inr ((aa.mk 0 0 (aH.mk []) ([]:List aa)),(0:Int),r15.2.2)))
            else
             aP (en (!Nd) 0 (dF d6 r13.1.V.S)) fun r16=>
             aP (nw d6 r13.1.V.S r15.1) fun r17=>
             some (.inl (r15.2.1,r17,Nd||(decide (r16>=0)),aw (n8+1)))
     else
      some (.inr (.inl ()))) (bq,(aa.mk 7 0 (aH.mk []) ([]:List aa)),false,0)) (fun(_:Unit)=>
    some (.inl ()))
   (fun((t10,t11,t12):aa×Int×Int)=>some (.inr (t10,t11,t12)))) (fun(_:Unit)=>
   some ((aa.mk 0 0 (aH.mk []) ([]:List aa)),0,10))
  (fun((t2,t3,t4):aa×Int×Int)=>some (t2,t3,t4))
end
def Av(v_0:aa)(ey:aH):Option (aa×Bool):=
 aP (dF v_0 ey) fun r1=>
 if decide (r1<0)then
  some ((aa.mk 0 0 (aH.mk []) ([]:List aa)),false)
 else
  if r1==(aw ((v_0.L.length:Int) -1))then
   some ((aa.mk 0 0 (aH.mk []) ([]:List aa)),true)
  else
   aL (0<=aw (r1+1)/\aw (r1+1)<v_0.L.length)<|
   some (ix v_0.L (aw (r1+1)),true)
def uj(v_0:aa):Option (Bool×Bool):=
 aP (Av v_0 (aH.mk [70,105,108,116,101,114])) fun r1=>
 if !r1.2 then
  some (false,true)
 else
  jn (
   if(r1.1.Kind==6)&&((r1.1.L.length:Int)==1)then
    aL (0<=(0:Int)/\(0:Int)<r1.1.L.length)<|
    some (ix r1.1.L 0)
   else
    some r1.1) fun(f2:aa)=>
  some (true,(f2.Kind==5)&&(f2.S.b==(aH.mk [70,108,97,116,101,68,101,99,111,100,101]).b))
def rE(v_0:aa)(ey:aH):Option (aa):=
 aP (dF v_0 ey) fun r1=>
 if decide (r1<0)then
  some v_0
 else
  aL (0<=(0:Int)/\0<=r1/\r1<=v_0.L.length)<|
  aL ((([]:List aa).length+(part v_0.L 0 r1).length)*56<=room)<|
  jn (
   if decide (aw (r1+2)<(v_0.L.length:Int))then
    aL (0<=aw (r1+2)/\aw (r1+2)<=(v_0.L.length:Int)/\(v_0.L.length:Int)<=v_0.L.length)<|
    aL (((part v_0.L 0 r1).length+(part v_0.L (aw (r1+2)) (v_0.L.length:Int)).length)*56<=room)<|
    some ((part v_0.L 0 r1)++(part v_0.L (aw (r1+2)) (v_0.L.length:Int)))
   else
    some (part v_0.L 0 r1)) fun(aiA:(List aa))=>
  some (aa.mk v_0.Kind v_0.N v_0.S aiA)
def c5:Nat->aa->aa->Option (Int)
 |0,_,_=>none
 |fuel+1,a_0,b_1=>
  if(decide (a_0.Kind<b_1.Kind))||((a_0.Kind==b_1.Kind)&&((decide (a_0.N<b_1.N))||((a_0.N==b_1.N)&&(Op.bytesLess a_0.S.b b_1.S.b))))then
   some (-1)
  else
   if((a_0.Kind !=b_1.Kind)||(a_0.N !=b_1.N))||(!(a_0.S.b==b_1.S.b))then
    some 1
   else
    uY (
     m5 (
      iter (fun(k4:Int)=>
       if(decide (k4<(a_0.L.length:Int)))&&(decide (k4<(b_1.L.length:Int)))then
        aL (0<=k4/\k4<a_0.L.length)<|
        aL (0<=k4/\k4<b_1.L.length)<|
        aP (c5 fuel (ix a_0.L k4) (ix b_1.L k4)) fun r8=>
        if r8 !=0 then
         some (.inr (.inr r8))
        else
         some (.inl (aw (k4+1)))
       else
        some (.inr (.inl ()))) 0) (fun(_:Unit)=>
      some (.inl ()))
     (fun(t7:Int)=>some (.inr t7))) (fun(_:Unit)=>
     if decide ((a_0.L.length:Int)<(b_1.L.length:Int))then
      some (-1)
     else
      if decide ((a_0.L.length:Int)>(b_1.L.length:Int))then
       some 1
      else
       some 0)
    (fun(t3:Int)=>some t3)
def qf:IC:=dec 0x3092e9c81f0e399f7e88fe50c3f33d15b7648d5864ded287f6a6977a156872cef3f15f2993eb1579fe12a328748863b2dec4b569a2894a079f336fda9c9f1930f331d84dd43d8aab9c7819d83f9e9ce41587d932f073f431148b831b2e7d00a3d49046b343b7f035bc4033c2750b7e9d9f5a551a3418484d10080595880a3b392ddc8507de877d180e22b5a06f3f6ecf5ade6b7fc586c61b03146e7bcb5f31c6748443c937a57ea7c23deec0ed30a2e9f212d461295b01326a30333139325d3143e4b1f052ebc354beebe8887a3035436ef576ca92f7bff0692da4bf28fa01453efa41ff2d3b1d28b1c44dbcac4e6cbd072e740d14518ba7684c56b680f899c3bbb98debf66f9f42798b9bd76214df8fa27e7113a54dedc733392cc0c3c1526293167387a1252c5fa9f737ef65f3ece9be4e92c1df14a659baac65e0f15ad4e2e97867dbaa15252380bad466600b263df7ba1c29653137d9d7600cfe965a03981dc
theorem Aa:aS prog 59 103 [⟨4,true,none⟩] qf=true:=by kernel_rfl
theorem Au{fuel:Nat}:∀{a_0:aa}{b_1:aa}{s:ae}{Q:List AV->ae->Prop},ok (c5 fuel a_0 b_1) (fun r=>Q [.int .i64 r] s)->FN prog 59 [oV a_0,oV b_1] s Q:=by
 induction fuel with
 |zero=>intros;rename_i h;rw[c5]at h;exact absurd h (by rw[ok_none];exact fun h=>h)
 |succ fuel ih=>
 have ail:∀{a_0:aa}{b_1:aa}{s:ae}{r:Int},c5 fuel a_0 b_1=some r->FE prog 59 [oV a_0,oV b_1] s [.int .i64 r] s:=fun h=>ih ⟨_,h,rfl,rfl⟩
 intro a_0 b_1 s Q
 intro h
 refine FO Aa rfl rfl ?_
 revert h
 rw[qf,c5]
 conv in dec _=>reduce
 repeat'(first
  |(with_reducible first|exact cU|refine bP ?_ ?_|refine cX ?_|refine cK (fun _(h:c5 fuel (ix a_0.L k4) (ix b_1.L k4)=some _)=>ail h) (fun _=>rfl) (fun r8=>?_))
  |((with_reducible refine dk (fun(k4:Int)=>⟨[(2,.loc [.int .i64 a_0.Kind,.int .i64 a_0.N,.str a_0.S.b,sF 4 a_0.L]),(3,.loc [.int .i64 b_1.Kind,.int .i64 b_1.N,.str b_1.S.b,sF 4 b_1.L]),(5,.int .i64 k4)],[],s⟩) ?_ ?_);(first|exact rfl|simp -implicitDefEqProofs only[go_sem,seval]);rintro J k4)
  |((with_reducible refine gE (fun(_:Unit)=>⟨[(2,.loc [.int .i64 a_0.Kind,.int .i64 a_0.N,.str a_0.S.b,sF 4 a_0.L]),(3,.loc [.int .i64 b_1.Kind,.int .i64 b_1.N,.str b_1.S.b,sF 4 b_1.L])],[],s⟩) (fun J=>?_) ?_);rotate_left;rintro _)
  |simp -implicitDefEqProofs only[go_sem,seval])
theorem As{fuel:Nat}{a_0 b_1}{s:ae}{r:Int}(h:c5 fuel a_0 b_1=some r):FE prog 59 [oV a_0,oV b_1] s [.int .i64 r] s:=Au ⟨r,h,rfl,rfl⟩
def jQ(a_0:aa)(b_1:aa):Option (Bool):=
 aP (c5 Un a_0 b_1) fun r1=>
 some (r1==0)
def wB:IC:=dec 0x11be1a5bec161636de9068d1687621f374f101cfe965a03981dc
theorem Fa:aS prog 24 9 [⟨4,true,none⟩] wB=true:=by kernel_rfl
theorem Fz{a_0 b_1}{s:ae}{Q:List AV->ae->Prop}:ok (jQ a_0 b_1) (fun r=>Q [.bool r] s)->FN prog 24 [oV a_0,oV b_1] s Q:=by
 intro h
 refine FO Fa rfl rfl ?_
 revert h
 rw[wB,jQ]
 conv in dec _=>reduce
 repeat'(first
  |with_reducible refine aF (fun _(h:c5 Un a_0 b_1=some _)=>As h) (fun r1=>?_)
  |simp -implicitDefEqProofs only[go_sem,seval])
theorem Fy{a_0 b_1}{s:ae}{r:Bool}(h:jQ a_0 b_1=some r):FE prog 24 [oV a_0,oV b_1] s [.bool r] s:=Fz ⟨r,h,rfl,rfl⟩
def fG(a_0:a8)(b_1:a8):Option (Bool):=
 aP (jQ a_0.V b_1.V) fun r1=>
 some ((r1&&((a_0.Stream==b_1.Stream)!=false))&&(a_0.Data.b==b_1.Data.b))
def wC:IC:=dec 0x3cb2be4b4795cd070448797c98ccf2301c5c3a12bbca41c0b21a22e25c4f4258e4da8e72284ebc05407ba90816a4f2546973c59357f101d155e5af6981dc
theorem Fb:aS prog 8 24 [⟨4,true,none⟩] wC=true:=by kernel_rfl
theorem FA{a_0 b_1}{s:ae}{Q:List AV->ae->Prop}:ok (fG a_0 b_1) (fun r=>Q [.bool r] s)->FN prog 8 [.agg [.int .i64 a_0.V.Kind,.int .i64 a_0.V.N,.str a_0.V.S.b,sF 4 a_0.V.L,.bool a_0.Stream,.str a_0.Data.b],.agg [.int .i64 b_1.V.Kind,.int .i64 b_1.V.N,.str b_1.V.S.b,sF 4 b_1.V.L,.bool b_1.Stream,.str b_1.Data.b]] s Q:=by
 intro h
 refine FO Fb rfl rfl ?_
 revert h
 rw[wC,fG]
 conv in dec _=>reduce
 repeat'(first
  |with_reducible refine aF (fun _(h:jQ a_0.V b_1.V=some _)=>Fy h) (fun r1=>?_)
  |simp -implicitDefEqProofs only[go_sem,seval])
theorem pB{a_0 b_1}{s:ae}{r:Bool}(h:fG a_0 b_1=some r):FE prog 8 [.agg [.int .i64 a_0.V.Kind,.int .i64 a_0.V.N,.str a_0.V.S.b,sF 4 a_0.V.L,.bool a_0.Stream,.str a_0.Data.b],.agg [.int .i64 b_1.V.Kind,.int .i64 b_1.V.N,.str b_1.V.S.b,sF 4 b_1.V.L,.bool b_1.Stream,.str b_1.Data.b]] s [.bool r] s:=FA ⟨r,h,rfl,rfl⟩
end Go.AB
end
section
set_option maxRecDepth 16000
namespace Go.AB
open Go
open Go.Proofs.Tryz (prog)
attribute[-go_sem] Nat.add_zero pj cT ck cN bK cj
def Gq:IC:=dec 0x2148cdd2622c2781a2a65062c0d240b38ec318c4c7f9d287ef8c3deebeff8289b0d8383e37e6105b84cbbcdf6755b5368d4e5fb72a7c8a6ec133e33e505e298cedfcce97417516802dd71261727483fa
theorem Pq:aS prog 63 27 [⟨4,true,none⟩] Gq=true:=by kernel_rfl
theorem Re{s:ae}{k:Nat}{Q:List AV->ae->Prop}(hn:k*1<=room)(hq:∀s' r',Sub s s'->gR s' r' ([]:List UInt8)->Q [iO r' 0] (ji s' r' ([]:List UInt8))):FN prog 63 [.arr 0 0 0 0,.int .i64 k] s Q:=by
 have hr:room=140737488355328:=rfl
 refine FO Pq rfl rfl ?_
 rw[Gq]
 conv in dec _=>reduce
 have h0:decide ((k:Int)<0)=false:=by simp
 have e00:((0:Nat):Int)=0:=rfl
 have w1:aw 0=0:=by decide
 have w2:aw (k:Int)=k:=ar (by omega) (by omega)
 simp -implicitDefEqProofs only[go_sem,Nat.reduceBEq,Nat.reduceAdd,Nat.reduceMul,Nat.reduceLeDiff,Nat.reduceEqDiff,Nat.reduceBNe,UInt8.reduceToNat,UInt32.reduceToNat,h0,e00,w1,w2,bL]
 refine⟨fun hk=>?_,fun hk=>?_⟩
 ·have hk:0<k:=by simpa using hk
  refine⟨Int.le_refl _,?_⟩
  refine x4 (n:=0) (cap:=0) (m:=k) (b:=0) (off:=0) (by':=1) (olds:=[]) rfl rfl rfl (by omega) (by omega) fun b' c6 hb' hc=>?_
  rw[List.nil_append]
  simp -implicitDefEqProofs only[go_sem,Nat.reduceBEq,Nat.reduceAdd,Nat.reduceMul,Nat.reduceLeDiff,Nat.reduceEqDiff,Nat.reduceBNe,UInt8.reduceToNat,UInt32.reduceToNat]
  have:=hq s (some (b',c6,flat (List.replicate k (0:UInt8))++flat (List.replicate (c6 -k) (0:UInt8)))) (Sub.refl s)
   ⟨hb',by omega,by simp,by
     have e:(flat ([]:List UInt8)).length=0:=rfl
     rw[List.length_append,e,List.length_append,aR,aR,List.length_replicate,List.length_replicate,show bp.w UInt8=1 from rfl]
     omega,by rw[<-ew];exact bd _⟩
  exact⟨⟨Int.le_refl _,Int.le_refl _,by omega⟩,this⟩
 ·have hk:k=0:=by
   have:¬(0<k):=by simpa using hk
   omega
  have:=hq s none (Sub.refl s) rfl
  first|exact this|trace_state
def NP(l:List UInt8)(n:Int):Option (List UInt8):=aL (l=[]/\0<=n/\n<=140737488355328)<|some []
theorem Rd{l:List UInt8}{n:Int}{s:ae}{r:List UInt8}(h:NP l n=some r):FE prog 63 [.arr 0 0 0 0,.int .i64 n] s [sT 1 r] s:=by
 unfold NP aL at h
 split at h<;>try(cases h;done)
 rename_i hc
 injection h with h
 subst h
 obtain⟨k,rfl⟩:=Int.eq_ofNat_of_zero_le hc.2.1
 refine FN.IP (sz:=1) (cs:=[]) (n:=0) (s2:=s) rfl rfl ⟨rfl,rfl⟩ (Re (by show k*1<=140737488355328;omega) fun s' r' hs hr=>?_)
 cases r' with
 |none=>exact .inr ⟨rfl,rfl,hs,0,rfl⟩
 |some y=>
  obtain⟨b,cap,sp⟩:=y
  obtain⟨h1,h2,h3,h4,h5⟩:=hr
  refine .inl ⟨b,cap,sp,rfl,ch,by omega,Nat.zero_le _,h4,?_⟩
  have e:(ji s' (some (b,cap,sp)) ([]:List UInt8)).del b=s':=qW h1
  rw[e];exact hs
@[go_sem]theorem SC(l:List UInt8)(a b:Nat):(l.drop a).take (b -a)=part l a b:=by unfold part;simp
@[go_sem]theorem aeW(l:List UInt8)(c:UInt8):Sm (l++[c])=true:=by cases l<;>rfl
theorem KH:Dy prog 111 2 0 109=true:=by kernel_rfl
def ee(dJ:(List (List UInt8))):Option ((List UInt8)):=
 jn (
  iter (fun((G7,t4):Int×Int)=>
   if decide (t4<(dJ.length:Int))then
    aL (0<=t4/\t4<dJ.length)<|
    if decide (aw (G7+((ix dJ t4).length:Int))<0)then
     none
    else
     some (.inl (aw (G7+((ix dJ t4).length:Int)),aw (t4+1)))
   else
    some (.inr G7)) (0,0)) fun(Ll:Int)=>
 aP (NP ([]:List UInt8) Ll) fun r7=>
 jn (
  iter (fun((nu,t10):(List UInt8)×Int)=>
   if decide (t10<(dJ.length:Int))then
    aL (0<=t10/\t10<dJ.length)<|
    aL ((nu.length+(ix dJ t10).length)*1<=room)<|
    some (.inl (nu++(ix dJ t10),aw (t10+1)))
   else
    some (.inr nu)) (r7,0)) fun(u6:(List UInt8))=>
 some u6
def jk:IC:=dec 0x51a73e87d8475c805f886a2bef3d414dac0b817c707d17fd8c28b7d207949f141c35717e12c1b9e7a4af99fd29f4eb3d1b0a83a2316ea9b6e0575a4d58c0d454c760f601cbcb682a5feda477c8e42072c83f29dc6393f79c8d01236ce28294aeca16ed00a284e7ba7d53c10174ef280ac698ab13fce245c230341c3876526defbb15b2a52be69a0598cefe7a096f11176667db99d8298c202a9615fe929672db2f0466b7a7a3a6d4de72c6a641291bb0a4291cf798d0f2a73a
theorem ov:aS prog 27 36 [⟨2,true,none⟩] jk=true:=by kernel_rfl
theorem oy{dJ}{s:ae}{Q:List AV->ae->Prop}:ok (ee dJ) (fun r=>Q [sT 1 r] s)->FN prog 27 [sF 1 dJ] s Q:=by
 intro h
 refine FO ov rfl rfl ?_
 revert h
 rw[jk,ee]
 conv in dec _=>reduce
 repeat'(first
  |with_reducible refine aF (fun _(h:NP ([]:List UInt8) Ll=some _)=>Rd h) (fun r7=>?_)
  |((with_reducible refine dk (fun((G7,t4):Int×Int)=>⟨[(0,sF 1 dJ),(3,.int .i64 G7),(9,sF 1 dJ),(10,.int .i64 (dJ.length:Int)),(11,.int .i64 t4)],[],s⟩) ?_ ?_);(first|exact rfl|simp -implicitDefEqProofs only[go_sem,seval]);rintro J ⟨G7,t4⟩)
  |((with_reducible refine dm (live:=[(0,true),(3,false)]) (fun(Ll:Int)=>⟨[(0,sF 1 dJ),(3,.int .i64 Ll)],[],s⟩) (fun J=>?_) ?_);rotate_left;rintro Ll)
  |((with_reducible refine dk (fun((nu,t10):(List UInt8)×Int)=>⟨[(6,sT 1 nu),(25,sF 1 dJ),(26,.int .i64 (dJ.length:Int)),(27,.int .i64 t10)],[],s⟩) ?_ ?_);(first|exact rfl|simp -implicitDefEqProofs only[go_sem,seval]);rintro J ⟨nu,t10⟩)
  |((with_reducible refine dm (live:=[(6,false)]) (fun(u6:(List UInt8))=>⟨[(6,sT 1 u6)],[],s⟩) (fun J=>?_) ?_);rotate_left;rintro u6)
  |simp -implicitDefEqProofs only[go_sem,seval])
theorem ox{dJ}{s:ae}{r:(List UInt8)}(h:ee dJ=some r):FE prog 27 [sF 1 dJ] s [sT 1 r] s:=oy ⟨r,h,rfl,rfl⟩
def jb(n_0:Int):Option (aa):=some (aa.mk 2 n_0 (aH.mk []) ([]:List aa))
def tD:IC:=dec 0xcb004adcefc14b4658f086d21cf9bef07a609f991eb37e0092753a
theorem Dq:aS prog 11 5 [⟨2,false,some (4,true)⟩] tD=true:=by kernel_rfl
theorem Eu{n_0}{s:ae}{Q:List AV->ae->Prop}:ok (jb n_0) (fun r=>Q [oV r] s)->FN prog 11 [.int .i64 n_0] s Q:=by
 intro h
 refine FO Dq rfl rfl ?_
 revert h
 rw[tD,jb]
 conv in dec _=>reduce
 repeat'(first
  |simp -implicitDefEqProofs only[go_sem,seval])
theorem uG{n_0}{s:ae}{r:aa}(h:jb n_0=some r):FE prog 11 [.int .i64 n_0] s [oV r] s:=Eu ⟨r,h,rfl,rfl⟩
def ug(n_0:UInt64):Option (aH):=
 if decide ((n_0.toNat:Int)<10)then
  aL (0<=(n_0.toNat:Int)/\(n_0.toNat:Int)<=((Ja ((n_0.toNat:Int)+1)).toNat:Int)/\((Ja ((n_0.toNat:Int)+1)).toNat:Int)<=(aH.mk [48,49,50,51,52,53,54,55,56,57]).b.length)<|
  some (aH.mk (part (aH.mk [48,49,50,51,52,53,54,55,56,57]).b (n_0.toNat:Int) ((Ja ((n_0.toNat:Int)+1)).toNat:Int)))
 else
  none
def AY:IC:=dec 0x34782d48031237d4e42f85e8a3d70a3dcbc17f76e2c3af4e1fa53d37b54979e15720c180227defc473a
theorem Kv:aS prog 145 19 [⟨2,true,none⟩] AY=true:=by kernel_rfl
theorem KU{n_0}{s:ae}{Q:List AV->ae->Prop}:ok (ug n_0) (fun r=>Q [.str r.b] s)->FN prog 145 [.int .u64 n_0.toNat] s Q:=by
 intro h
 refine FO Kv rfl rfl ?_
 revert h
 rw[AY,ug]
 conv in dec _=>reduce
 repeat'(first
  |simp -implicitDefEqProofs only[go_sem,Nat.reduceBEq,Nat.reduceAdd,Nat.reduceMul,Nat.reduceLeDiff,Nat.reduceEqDiff,Nat.reduceBNe,UInt8.reduceToNat,UInt32.reduceToNat])
theorem KT{n_0}{s:ae}{r:aH}(h:ug n_0=some r):FE prog 145 [.int .u64 n_0.toNat] s [.str r.b] s:=KU ⟨r,h,rfl,rfl⟩
def qw(v_0:aa):Option (aH×Int):=
 aP (gL v_0) fun r1=>
 if r1 !=0 then
  some ((aH.mk []),r1)
 else
  jn (
   if decide (v_0.N<0)then
    some ((aH.mk [45]),aw (0 -v_0.N))
   else
    some ((aH.mk []),v_0.N)) fun((Lk,n4):aH×Int)=>
  if v_0.Kind==2 then
   aP (ug (Ja (n4))) fun r5=>
   aL (((Lk.b.length+r5.b.length:Nat):Int)<=Ka)<|
   some (aH.mk (Lk.b++r5.b),0)
  else
   none
def yU:IC:=dec 0x4f3b28e4dcab1e51e6a7ad9f0c8b7b6aad6fc723bcf8b8008eaaa51406e080cbecedd65e64225f1be082bccde0a348c66a1a905f2612aa0c02a48e2153a865de775df386b1791b16f98e801a94aa26d9f8e2cf48c564ed351efed57cb2940d572e77d1f8674afd0fbaf834429d805ce7a830399ac
theorem H8:aS prog 102 49 [⟨2,true,none⟩,⟨3,true,none⟩] yU=true:=by kernel_rfl
theorem Iw{v_0}{s:ae}{Q:List AV->ae->Prop}:ok (qw v_0) (fun r=>Q [.str r.1.b,.int .i64 r.2] s)->FN prog 102 [oV v_0] s Q:=by
 intro h
 refine FO H8 rfl rfl ?_
 revert h
 rw[yU,qw]
 conv in dec _=>reduce
 repeat'(first
  |(with_reducible first|exact cU|refine bP ?_ ?_|refine cX ?_|refine aF (fun _(h:gL v_0=some _)=>ru h) (fun r1=>?_)|refine aF (fun _(h:ug (Ja (n4))=some _)=>KT h) (fun r5=>?_))
  |((with_reducible refine dm (fun((Lk,n4):aH×Int)=>⟨[(1,.loc [.int .i64 v_0.Kind,.int .i64 v_0.N,.str v_0.S.b,sF 4 v_0.L]),(5,.str Lk.b),(6,.int .i64 n4)],[],s⟩) (fun J=>?_) ?_);rotate_left;rintro⟨Lk,n4⟩)
  |simp -implicitDefEqProofs only[go_sem,seval])
theorem Iv{v_0}{s:ae}{r:aH×Int}(h:qw v_0=some r):FE prog 102 [oV v_0] s [.str r.1.b,.int .i64 r.2] s:=Iw ⟨r,h,rfl,rfl⟩
structure mw where
 Builder:wg
def iL(w_0:mw)(v_1:aa):Option (mw):=
 if v_1.Kind==0 then
  none
 else
  if v_1.Kind==1 then
   none
  else
   jn (
    if v_1.Kind==2 then
     some (v_1.Kind==2)
    else
     some (v_1.Kind==3)) fun(t2:Bool)=>
   if t2 then
    aP (qw v_1) fun r4=>
    aP (dQ w_0.Builder r4.1) fun r5=>
    some (mw.mk r5.2.2)
   else
    none
def mb:IC:=dec 0x5ae259435bc53762a33e4d51ddb4163ca8c9d8156a06d73ff6975d8e4e19a347b7f10d3d3c2bac8abe42d978ddb590d680a4380303b7a5cf4f297ab7bbef79addda6ac764c8bdcae9514fe75339bec74c06cf50b8a4c5e4e1dfbecffd6a65673d879ec5ef5b94399f9a
theorem tP:aS prog 61 95 [] mb=true:=by kernel_rfl
theorem ur{w_0 v_1}{B0:Nat}{s:ae}{Q:List AV->ae->Prop}(hB0:s B0=some (.cells [dD 111 B0 0 w_0.Builder,de w_0.Builder])):ok (iL w_0 v_1) (fun r=>Q [] (s.set B0 (.cells [dD 111 B0 0 r.Builder,de r.Builder])))->FN prog 61 [.ref B0 0,oV v_1] s Q:=by
 have hS:s=(s.set B0 (.cells [dD 111 B0 0 w_0.Builder,de w_0.Builder])):=by simp only[aY hB0]
 rw[hS]
 intro h
 refine FO tP rfl rfl ?_
 revert h
 rw[mb,iL]
 conv in dec _=>reduce
 repeat'(first
  |(with_reducible first|exact cU|refine bP ?_ ?_|refine cX ?_|refine aF (fun _(h:qw v_1=some _)=>Iv h) (fun r4=>?_)|refine fun hh=>jB (by simp -implicitDefEqProofs only[go_sem,seval]) (lJ (B0:=B0) (preB0:=[]) (postB0:=[]) (TB0:=111) (by simp -implicitDefEqProofs only[go_sem,seval]<;>simp only[ao]) (by first|rfl|simp) KH (aO (show ok (dQ w_0.Builder r4.1) _ from hh) fun r5=>?_)))
  |((with_reducible refine dm (fun(t2:Bool)=>⟨[(0,.ref B0 0),(3,.loc [.int .i64 v_1.Kind,.int .i64 v_1.N,.str v_1.S.b,sF 4 v_1.L]),(27,.bool t2)],[],(s.set B0 (.cells [dD 111 B0 0 w_0.Builder,de w_0.Builder]))⟩) (fun J=>?_) ?_);rotate_left;rintro t2)
  |simp -implicitDefEqProofs only[go_sem,seval])
def jR(v_0:aa):Option (aH×Int):=
 aP (ja v_0) fun r1=>
 if r1 !=0 then
  some ((aH.mk []),r1)
 else
  aP (iL (mw.mk wg.zero) v_0) fun r2=>
  aP (bk r2.Builder) fun r3=>
  some (r3.1,0)
def wD:IC:=dec 0x94f7fbe66ae9b18b2d7487cebc24c82d38176da8d1ecb8d304a41c09269759ae3b3de736fdaa871b5ccbe33fcbdca1845bd301a3b400fb793f01d5a976df86635e24041490d929d805ce7a830399ac
theorem Fc:aS prog 26 20 [⟨2,true,none⟩,⟨3,true,none⟩] wD=true:=by kernel_rfl
theorem FG{v_0}{s:ae}{Q:List AV->ae->Prop}:ok (jR v_0) (fun r=>Q [.str r.1.b,.int .i64 r.2] s)->FN prog 26 [oV v_0] s Q:=by
 intro h
 refine FN.forget ?_
 refine FO Fc rfl rfl ?_
 revert h
 rw[wD,jR]
 conv in dec _=>reduce
 repeat'(first
  |(with_reducible first|refine bP ?_ ?_|refine cX ?_|refine aF (fun _(h:ja v_0=some _)=>uF h) (fun r1=>?_)|refine fun hh=>ur (B0:=N1) (by simp -implicitDefEqProofs only[go_sem,seval]<;>simp only[ao]) (aO (show ok (iL (mw.mk wg.zero) v_0) _ from hh) fun r2=>?_)|refine fun hh=>jB (by simp -implicitDefEqProofs only[go_sem,seval]) (ez (B0:=N1) (preB0:=[]) (postB0:=[]) (TB0:=111) (by simp -implicitDefEqProofs only[go_sem,seval]<;>simp only[ao]) (by first|rfl|simp) KH (aO (show ok (bk r2.Builder) _ from hh) fun r3=>?_)))
  |((fail_if_success (have _x:=sN1));with_reducible intro hh N1 hN1;(try simp only[iD]at hN1);have sN1:=hN1;revert hh)
  |(with_reducible first|exact fun hh=>⟨_,lx.set (lx.refl _) (by simp[ae.set,sN1]),hh⟩|exact fun hh=>⟨_,lx.refl _,hh⟩)
  |simp -implicitDefEqProofs only[go_sem,seval])
theorem wK{v_0}{s:ae}{r:aH×Int}(h:jR v_0=some r):FE prog 26 [oV v_0] s [.str r.1.b,.int .i64 r.2] s:=FG ⟨r,h,rfl,rfl⟩
def nK(v_0:aa):Option ((List UInt8)):=
 aP (jR v_0) fun r1=>
 aL (((r1.1.b.length+(aH.mk [10]).b.length:Nat):Int)<=Ka)<|
 some ((aH.mk (r1.1.b++(aH.mk [10]).b)).b)
def wq:IC:=dec 0x51fd1b56fbbea4511ae369703457dcf9be7f0d6ac341e1e847e95f1493b66f41a5396c1303995b
theorem E4:aS prog 28 13 [⟨2,true,none⟩] wq=true:=by kernel_rfl
theorem EY{v_0}{s:ae}{Q:List AV->ae->Prop}:ok (nK v_0) (fun r=>Q [sT 1 r] s)->FN prog 28 [oV v_0] s Q:=by
 intro h
 refine FO E4 rfl rfl ?_
 revert h
 rw[wq,nK]
 conv in dec _=>reduce
 repeat'(first
  |with_reducible refine aF (fun _(h:jR v_0=some _)=>wK h) (fun r1=>?_)
  |simp -implicitDefEqProofs only[go_sem,seval])
theorem EX{v_0}{s:ae}{r:(List UInt8)}(h:nK v_0=some r):FE prog 28 [oV v_0] s [sT 1 r] s:=EY ⟨r,h,rfl,rfl⟩
def lS(n_0:Int)(o_1:a8)(qz:Bool):Option ((List UInt8)×Int):=
 if(decide (n_0<1))||(decide (n_0>4096))then
  some (([]:List UInt8),2)
 else
  aP (lR o_1) fun r1=>
  if r1 !=0 then
   some (([]:List UInt8),r1)
  else
   aP (jb n_0) fun r2=>
   aP (jR r2) fun r3=>
   aL (((r3.1.b.length+(aH.mk [32,48,32,111,98,106,10]).b.length:Nat):Int)<=Ka)<|
   if !o_1.Stream then
    aP (nK o_1.V) fun r4=>
    aP (ee [(aH.mk (r3.1.b++(aH.mk [32,48,32,111,98,106,10]).b)).b,r4,[101,110,100,111,98,106,10]]) fun r5=>
    some (r5,0)
   else
    none
def tg:IC:=dec 0x15b573f36ee7f4946d301327fe4cdb2a9742b83ec90c1406e3788a84738fbddbfeadb951b297b496ed0d106bb413d47198c2371164fc1d665319421b6833f0ec454f33b273e4250095dc477eb35f0dbb5551a786eb8da4f53483f1219560a16505a194b354e681e246b183f5819d2d8722fc445a2eb50b7383a24b4710fc1399f10ff42ed4ade5679af3cce221e18acdf7180c95ce304816173a2cc776e127c5670e249a59bda0d7c0ab6bb6f1447abc569b5da040dfb549345e7152c712bde2c99b6bb2ac62c42e527782753434e2d30d1600b65396cb50369be9c
theorem Dd:aS prog 9 77 [⟨6,true,none⟩,⟨7,true,none⟩] tg=true:=by kernel_rfl
theorem CT{n_0 o_1 qz}{s:ae}{Q:List AV->ae->Prop}:ok (lS n_0 o_1 qz) (fun r=>Q [sT 1 r.1,.int .i64 r.2] s)->FN prog 9 [.int .i64 n_0,.agg [.int .i64 o_1.V.Kind,.int .i64 o_1.V.N,.str o_1.V.S.b,sF 4 o_1.V.L,.bool o_1.Stream,.str o_1.Data.b],.bool qz] s Q:=by
 intro h
 refine FO Dd rfl rfl ?_
 revert h
 rw[tg,lS]
 conv in dec _=>reduce
 repeat'(first
  |(with_reducible first|exact cU|refine bP ?_ ?_|refine cX ?_|refine aF (fun _(h:lR o_1=some _)=>CP h) (fun r1=>?_)|refine aF (fun _(h:jb n_0=some _)=>uG h) (fun r2=>?_)|refine aF (fun _(h:jR r2=some _)=>wK h) (fun r3=>?_)|refine aF (fun _(h:nK o_1.V=some _)=>EX h) (fun r4=>?_)|refine aF (fun _(h:ee [(aH.mk (r3.1.b++(aH.mk [32,48,32,111,98,106,10]).b)).b,r4,[101,110,100,111,98,106,10]]=some _)=>(by refine mX ?_ (ox h);simp -implicitDefEqProofs only[go_sem,seval])) (fun r5=>?_))
  |simp -implicitDefEqProofs only[go_sem,seval])
theorem CS{n_0 o_1 qz}{s:ae}{r:(List UInt8)×Int}(h:lS n_0 o_1 qz=some r):FE prog 9 [.int .i64 n_0,.agg [.int .i64 o_1.V.Kind,.int .i64 o_1.V.N,.str o_1.V.S.b,sF 4 o_1.V.L,.bool o_1.Stream,.str o_1.Data.b],.bool qz] s [sT 1 r.1,.int .i64 r.2] s:=CT ⟨r,h,rfl,rfl⟩
attribute[-go_sem] SC
end Go.AB
end
