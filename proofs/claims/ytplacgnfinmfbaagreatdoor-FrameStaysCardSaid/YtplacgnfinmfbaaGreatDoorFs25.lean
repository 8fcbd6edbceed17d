/- A part. -/
import Derived.Test.YtplacgnfinmfbaaGreatDoorFs11
import Derived.Test.YtplacgnfinmfbaaGreatDoorFs22
set_option linter.unusedSimpArgs false
set_option linter.unusedVariables false
section
set_option maxRecDepth 16000
namespace Go.AB
open Go
open Go.Proofs.Tryz (prog)
attribute[-go_sem] Nat.add_zero pj cT ck cN bK cj
def Ki:IC:=dec 0x1df974198ae0b79b4e5d6b899058198a9a2ba880658cc2443cdd4e28a0961dc
theorem RO:aS prog 211 9 [⟨4,true,none⟩] Ki=true:=by kernel_rfl
def xm:IC:=dec 0x51000d1407f3
def xn:IC:=dec 0x3627b8718aa
def xp:IC:=dec 0x158ec205d36c12d8d3
def nR:IC:=dec 0x2fcf6b6fa351677dc225b2689814d23d62628a9ebb141d97f43af8bcd539308f6582208bf0d3106def54c4e5a84534da99807b34ffffe539d409403838bacc22ad6265b649c59f0f120887e514483c6ae44f0faee8f24a4ac2c2460a9d47cb58d88c00e1f9db401059696e37d948b57087ac657e711131b0bd4016bf66346054d4703bc7413b40b
def xq:IC:=dec 0x10dee0eaf9c2c93ea0b2fa438d40ef6721b4ca754d7ee
def gO:List lu:=[⟨2,false,none⟩,⟨3,true,none⟩]
abbrev qJ(l:List aa):AV:=.sl false 4 l.length (flat l)
theorem JD{s:ae}{l:List aa}{Q:List AV->ae->Prop}(hq:∀Bs,s Bs=none->∀Bn,(s.set Bs (.cells [qJ l])) Bn=none->Q [.fn 260 [] [.ref Bs 0,.ref Bn 0]] ((s.set Bs (.cells [qJ l])).set Bn (.cells [.int .i64 2]))):FN prog 211 [qJ l,.int .i64 2] s Q:=by
 refine FO RO rfl rfl ?_
 rw[Ki]
 conv in dec _=>reduce
 have h0:decide ((2:Int)<1)=false:=rfl
 simp -implicitDefEqProofs only[go_sem,seval]
 intro Bs h1 Bn h2
 simp -implicitDefEqProofs only[go_sem,seval,h0,bL]
 exact hq Bs h1 Bn h2
def cA:Code->Code
 |.seq a _=>a
 |c=>c
def cB:Code->Code
 |.seq _ b=>b
 |c=>c
def rfA:Code->Code
 |.rangeFunc _ _ a _=>a
 |c=>c
def rfB:Code->Code
 |.rangeFunc _ _ _ b=>b
 |c=>c
def cIn:Code->Code
 |.block _ c=>c
 |c=>c
def aa9:Code->Array Oper
 |.region _ ops _=>ops
 |_=> #[]
def RA:IC->List au
 |.block _ (.Yo _ l _)=>l
 |_=>[]
noncomputable def DL:Code:=(Go.Proofs.Tryz.f159.body).getD .skip
noncomputable def pC1:Code:=cA DL
noncomputable def pC2:Code:=cA (cB DL)
noncomputable def pC3:Code:=cA (cA (cB (cB DL)))
noncomputable def pRf:Code:=cIn (cB (cA (cB (cB DL))))
noncomputable def pC4:Code:=cB (cB (cB DL))
noncomputable def V0:Array Oper:=aa9 (cIn (rfB pRf))
theorem DM:Go.Proofs.Tryz.f159.body=some (.seq pC1 (.seq pC2 (.seq (.seq pC3 (.block 0 (.rangeFunc (.tmp 8) #[9] (rfA pRf) (rfB pRf)))) pC4))):=by kernel_rfl
theorem Qu:rfB pRf=.block 1 (.region 4 V0 false):=by kernel_rfl
theorem Xd:rfA pRf=.region 3 #[{dst:=some 5,op:=.assign (.tmp 9),type:=24,pos:= "parse.go:116",after:= #[],guard:=none}] false:=by kernel_rfl
theorem DN:kZ prog 40 pC1 xm=true:=by kernel_rfl
theorem DP:kZ prog 40 pC2 xn=true:=by kernel_rfl
theorem DQ:kZ prog 40 pC3 xp=true:=by kernel_rfl
theorem DR:kZ prog 40 pC4 nR=true:=by kernel_rfl
theorem ML:cu prog 40 V0 V0.toList (RA xq)=true:=by kernel_rfl
theorem KY:V0.toList.all zh=true:=by kernel_rfl
theorem GO:jm prog Go.Proofs.Tryz.f159.results.toList gO=true:=by kernel_rfl
theorem KZ:Go.Proofs.Tryz.f159.ntmps=40:=by kernel_rfl
def iH(l:List aa)(k:Nat):List aa:=(l.drop (2*k)).take 2
def c7(l:List aa)(k:Nat):List VL:=(List.range k).map (iH l)
theorem m8(l:List aa)(k:Nat):c7 l (k+1)=c7 l k++[iH l k]:=by unfold c7;rw[List.range_succ,List.map_append];rfl
theorem AN(l:List aa)(k:Nat):(c7 l k).length=k:=by simp[c7]
theorem nE(l:List aa)(k:Nat)(h:2*k+2<=l.length):(iH l k).length=2:=by unfold iH;rw[List.length_take,List.length_drop];omega
theorem QF{w:World}{R:Nat->Nat}{l:List aa}{b off k:Nat}(hR:off+(flat l).length<=R b)(ha:At w R b off (flat l))(hk:2*k+2<=l.length):VR w R (qJ (iH l k)) (fc b off k):=by
 obtain⟨u,h1,h2,h3⟩:=ha
 have hs:=pR l 4 (2*k) 2 rfl
 have hl:(flat (iH l k)).length=2*4:=by rw[aR,nE l k hk];rfl
 have hfl:(flat l).length=l.length*4:=aR l
 have hg:∀(j:Nat)(c:AV),(flat (iH l k))[j]? =some c->(flat l)[2*k*4+j]? =some c:=fun j c hj=>by
  unfold iH at hj
  rw[<-hs,I4]at hj
  split at hj
  ·exact hj
  ·cases hj
 unfold qJ fc
 rw[nE l k hk]
 refine .sl false 4 2 _ b _ 2 (fun j=>u (2*k*4+j)) (fun c hc=>?_) hl (by omega) (Nat.le_refl _) (fun j c hj=>?_) (fun j c hj=>h2 _ c (hg j c hj))
 ·obtain⟨j,hj⟩:=List.mem_iff_getElem?.1 hc
  exact h3 c (List.mem_of_getElem? (hg j c hj))
 ·rw[Nat.add_assoc];exact h1 _ c (hg j c hj)
def nbB(ls:List VL)(i:Int):Option (Int⊕Bool):=
 bif decide (i<ls.length)then aL (1<=i/\i<2^62/\0<(ix ls i).length/\0<(ix ls (i -1)).length)<|
  bif(ix (ix ls i) 0).S.b==(ix (ix ls (i -1)) 0).S.b then some (.inr true)else some (.inl (i+1))
 else some (.inr false)
theorem Tf{s:ae}{r:cO}{ls:List VL}{B:Nat}{o o':SO}(h:gR s r ls)(hB:s B=some o):(ji s r ls).set B o'=ji (s.set B o') r ls/\gR (s.set B o') r ls:=by
 cases r with
 |none=>exact⟨rfl,h⟩
 |some x=>
  obtain⟨rb,cap,sp⟩:=x
  obtain⟨h1,h2⟩:=h
  have hne:B≠rb:=fun e=>by subst e;rw[h1]at hB;cases hB
  refine⟨set_comm hne,⟨by rw[ah hne.symm];exact h1,h2⟩⟩
def Hg(s:ae)(B2:Nat)(l:List aa)(k:Nat)(s':ae):Prop:=∃s1 r,s1 B2=some (.cells [iO r k])/\Sub s s1/\gR s1 r (c7 l k)/\s'=ji s1 r (c7 l k)
theorem Vo{n i j:Nat}{x y:AV}{G:Gh}{W:World}{s:ae}{t:Array Value}(hij:i≠j)(hi:i<n)(hj:j<n)(hg:cE G W)(hs:bc G W s)(ht:t.size=n)(hx:view x=x/\dp x=true)(hy:view y=y/\dp y=true)
 (h1:∀v,t[i]? =some v->VR W G.R x v)(h2:∀v,t[j]? =some v->VR W G.R y v):Inv G n [] ⟨[(i,x),(j,y)],[],s⟩ {tmps:=t,defers:=[]} W:=by
 have lk:∀k,look [(i,x),(j,y)] k=if i=k then x else if j=k then y else .undef:=fun k=>by rw[aX,aX];rfl
 refine⟨hg,hs,ht,fun k v hk=>?_,fun k hk=>?_,fun k d hd=>?_,rfl⟩
 ·show dc G W _ t k (look [(i,x),(j,y)] k) v
  rw[lk]
  by_cases e1:i=k
  ·subst e1;rw[if_pos rfl,<-hx.1];exact dc.zf hx.2 (h1 v hk)
  ·rw[if_neg e1]
   by_cases e2:j=k
   ·subst e2;rw[if_pos rfl,<-hy.1];exact dc.zf hy.2 (h2 v hk)
   ·rw[if_neg e2];exact⟨.undef _,trivial⟩
 ·show look [(i,x),(j,y)] k=.undef
  rw[lk,if_neg (by omega),if_neg (by omega)]
 ·have hd:bD (look [(i,x),(j,y)] k) d:=hd
  rw[lk]at hd
  split at hd
  ·exact(eR hx.2 d hd).elim
  ·split at hd
   ·exact(eR hy.2 d hd).elim
   ·exact hd.elim
end Go.AB
end
section
namespace Go.AB
open Go
theorem pg:∀x y:List UInt8,Op.bytesLess x y=false->Op.bytesLess y x=false->x=y
 |[],[],_,_=>rfl
 |[],_::_,h,_=>by cases h
 |_::_,[],_,h=>by cases h
 |a::x,b::y,h1,h2=>by
  rw[nD]at h1 h2
  simp only[Bool.or_eq_false_iff,decide_eq_false_iff_not,Bool.and_eq_false_iff,beq_eq_false_iff_ne,UInt8.lt_iff_toNat_lt]at h1 h2
  have hab:a=b:=UInt8.toNat_inj.1 (by omega)
  subst hab
  rw[pg x y (h1.2.resolve_left fun h=>h rfl) (h2.2.resolve_left fun h=>h rfl)]
theorem aae{x y:VL}(h1:jL y x=false)(h2:((ix y 0).S.b==(ix x 0).S.b)=false):jL x y=true:=by
 cases h:jL x y with
 |true=>rfl
 |false=>
  have:=pg _ _ h1 h
  rw[this,beq_self_eq_true]at h2
  cases h2
theorem aad{x y z:VL}(h1:jL x y=true)(h2:jL z y=false):jL x z=true:=by
 cases h:jL x z with
 |true=>rfl
 |false=>rw[<-h1];exact(mI.tr _ _ _ h2 h).symm▸rfl
def pJ:List VL->Bool
 |x::y::t=>((ix y 0).S.b==(ix x 0).S.b)||pJ (y::t)
 |_=>false
theorem OP(x y:VL)(t:List VL):pJ (x::y::t)=(((ix y 0).S.b==(ix x 0).S.b)||pJ (y::t)):=rfl
theorem strict:∀{Z:List VL},fk jL Z->pJ Z=false->Z.Pairwise fun x y=>jL x y=true
 |[],_,_=>List.Pairwise.nil
 |[x],_,_=>List.pairwise_singleton _ _
 |x::y::t,h,ha=>by
  unfold pJ at ha
  rw[Bool.or_eq_false_iff]at ha
  obtain⟨h1,h2⟩:=List.pairwise_cons.1 h
  have ih:=strict h2 ha.2
  have hxy:=aae (h1 y (by simp)) ha.1
  refine List.pairwise_cons.2 ⟨fun z hz=>?_,ih⟩
  rcases List.mem_cons.1 hz with rfl|hz
  ·exact hxy
  ·exact aad hxy ((List.pairwise_cons.1 h2).1 z hz)
theorem YE{Z W:List VL}(p:Z.Perm W)(h1:fk jL Z)(h2:fk jL W)(ha:pJ Z=false):Z=W:=by
 have hs:=strict h1 ha
 refine List.Perm.eq_of_pairwise (le:=fun x y=>jL y x=false) (fun a b ha hb e1 e2=>?_) h1 h2 p
 have hb:=p.mem_iff.2 hb
 have key:∀{L:List VL},L.Pairwise (fun x y=>jL x y=true)->a∈L->b∈L->a=b:=by
  intro L
  induction L with
  |nil=>intro _ h;cases h
  |cons c L ih=>
   intro hL ha hb
   obtain⟨k1,k2⟩:=List.pairwise_cons.1 hL
   rcases List.mem_cons.1 ha with ea|ha2<;>rcases List.mem_cons.1 hb with eb|hb2
   ·rw[ea,eb]
   ·rw[<-ea]at k1;rw[k1 b hb2]at e2;cases e2
   ·rw[<-eb]at k1;rw[k1 a ha2]at e1;cases e1
   ·exact ih k2 ha2 hb2
 exact key hs ha hb
theorem aai(Z:List VL)(jg:∀c∈Z,0<c.length)(hl:Z.length<2^60):iter (nbB Z) 1=some (pJ Z):=by
 obtain⟨o,h1,rfl⟩:=fh (body:=nbB Z) (s0:=1) (fun q=>∃i:Nat,q=(i:Int)+1/\pJ (Z.drop i)=pJ Z/\i<=Z.length) (fun q=>((Z.length:Int)+1 -q).toNat) (fun o=>o=pJ Z)
  ⟨0,rfl,by rw[List.drop_zero],Nat.zero_le _⟩ (by omega) (by
    rintro q ⟨i,rfl,ha,hi⟩
    unfold nbB
    by_cases h:i+1<Z.length
    ·have e1:Z.drop i=Z[i]::Z[i+1]::Z.drop (i+2):=by rw[List.drop_eq_getElem_cons (by omega),List.drop_eq_getElem_cons (i:=i+1) h]
     have e2:Z.drop (i+1)=Z[i+1]::Z.drop (i+2):=List.drop_eq_getElem_cons h
     have i1:ix Z ((i:Int)+1)=Z[i+1]:=by have:=fo (l:=Z) h;rw[<-this];congr 1
     have i2:ix Z ((i:Int)+1 -1)=Z[i]:=by rw[show(i:Int)+1 -1=(i:Int) by omega];exact fo (by omega)
     rw[e1,OP]at ha
     rw[show decide ((i:Int)+1<Z.length)=true by simp;omega,cond_true,i1,i2,bB ⟨by omega,by omega,jg _ (List.getElem_mem _),jg _ (List.getElem_mem _)⟩]
     cases he:((ix Z[i+1] 0).S.b==(ix Z[i] 0).S.b)with
     |true=>exact⟨.inr true,rfl,by rw[<-ha,he];rfl⟩
     |false=>
      rw[he,Bool.false_or]at ha
      refine⟨.inl ((i:Int)+1+1),rfl,⟨i+1,by omega,by rw[e2];exact ha,by omega⟩,by omega⟩
    ·rw[show decide ((i:Int)+1<Z.length)=false by simp;omega,cond_false]
     refine⟨.inr false,rfl,?_⟩
     rw[<-ha]
     rcases hd:Z.drop i with _|⟨x,t⟩
     ·rfl
     ·have:=congrArg List.length hd
      rw[List.length_drop,List.length_cons]at this
      obtain rfl:t=[]:=List.eq_nil_of_length_eq_zero (by omega)
      rfl)
 exact h1
def zT(x:VL):List VL->List VL
 |[]=>[x]
 |y::t=>if jL x y then x::y::t else y::zT x t
theorem lz(x:VL):∀l,(zT x l).Perm (x::l)
 |[]=>List.Perm.refl _
 |y::t=>by
  unfold zT
  split
  ·exact List.Perm.refl _
  ·exact((lz x t).cons y).trans (List.Perm.swap x y t)
theorem C0(x:VL):∀{l},fk jL l->fk jL (zT x l)
 |[],_=>fk.one x
 |y::t,h=>by
  obtain⟨h1,h2⟩:=List.pairwise_cons.1 h
  unfold zT
  split
  ·rename_i hxy
   refine List.pairwise_cons.2 ⟨fun z hz=>?_,h⟩
   have h3:=mI.Nl _ _ hxy
   rcases List.mem_cons.1 hz with rfl|hz
   ·exact h3
   ·exact mI.tr _ _ _ h3 (h1 z hz)
  ·rename_i hxy
   refine List.pairwise_cons.2 ⟨fun z hz=>?_,C0 x h2⟩
   rcases List.mem_cons.1 ((lz x t).mem_iff.1 hz)with rfl|hz
   ·simpa using hxy
   ·exact h1 z hz
def xO(l:List VL):List VL:=l.foldr zT []
theorem AF:∀l,(xO l).Perm l
 |[]=>List.Perm.refl _
 |x::l=>(lz x _).trans ((AF l).cons x)
theorem Ef:∀l,fk jL (xO l)
 |[]=>List.Pairwise.nil
 |x::l=>C0 x (Ef l)
def ry(l:List aa):Option (List aa×Int):=
 aL ((l.length:Int)<2^30/\l.length % 2=0)<|
 bif pJ (xO (c7 l (l.length/2)))then some ([],16)else some ((xO (c7 l (l.length/2))).flatten,0)
theorem PG{Z C:List VL}(p:Z.Perm C)(h:fk jL Z):pJ Z=pJ (xO C)/\(pJ Z=false->Z=xO C):=by
 have p2:Z.Perm (xO C):=p.trans (AF C).symm
 have k:pJ Z=false->Z=xO C:=YE p2 h (Ef C)
 refine⟨?_,k⟩
 cases h1:pJ Z with
 |false=>rw[<-k h1,h1]
 |true=>
  cases h2:pJ (xO C)with
  |true=>rfl
  |false=>
   have:=YE p2.symm (Ef C) h h2
   rw[this,h1]at h2;cases h2
end Go.AB
end
section
set_option maxRecDepth 4000
namespace Go.AB
open Go
open Go.Proofs.Tryz (prog)
attribute[-go_sem] Nat.add_zero pj cT ck cN bK cj
theorem Sg{α:Type}{c:Prop}[Decidable c]{o:Option α}{r:α}(h:aL c o=some r):c/\o=some r:=by
 by_cases hc:c
 ·rw[bB hc]at h;exact⟨hc,h⟩
 ·unfold aL at h
  rw[if_neg hc]at h;cases h
theorem K1{s s1:ae}{B2 rb cap:Nat}{sp:List AV}{ls:List VL}{Q:List AV->ae->Prop}(hB:s1 B2=some (.cells [.arr rb 0 ls.length cap]))(hrb:s1 rb=none)(hs:Sub s s1)(hl:(ls.length:Int)<2^40)(hz:∀c∈ls,0<c.length)(hfl:ls.flatten.length*56<=room)
 (q1:pJ (xO ls)=true->∀s',Sub s s'->Q [.sl false 4 0 [],.int .i64 16] s')(q0:pJ (xO ls)=false->∀s',Sub s s'->Q [.sl false 4 (xO ls).flatten.length (flat (xO ls).flatten),.int .i64 0] s'):
 fK prog nR (FB gO Q) ⟨[(4,.ref B2 0)],[],s1.set rb (.cells (flat ls++sp))⟩:=by
 have cf:room=140737488355328:=rfl
 have hne:B2≠rb:=fun e=>by subst e;rw[hrb]at hB;cases hB
 have hB':∀cs,(s1.set rb (.cells cs)) B2=some (.cells [.arr rb 0 ls.length cap]):=fun cs=>by rw[ah hne];exact hB
 rw[nR,gO]
 conv in dec _=>reduce
 simp -implicitDefEqProofs only[go_sem,Nat.reduceBEq,Nat.reduceAdd,Nat.reduceMul,Nat.reduceLeDiff,Nat.reduceEqDiff,Nat.reduceBNe,UInt8.reduceToNat,UInt32.reduceToNat,hB']
 refine Tp hrb (by omega) hz fun two p1 s1'=>?_
 have hlen:=p1.length_eq
 have jg:∀c∈two,0<c.length:=fun c hc=>hz c (p1.mem_iff.1 hc)
 obtain⟨ka,kb⟩:=PG p1 s1'
 have ajY:two.flatten.length=ls.flatten.length:=p1.flatten.length_eq
 have hn:ok (iter (nbB two) 1) fun d=>(d=true->∀s',Sub s s'->Q [.sl false 4 0 [],.int .i64 16] s')/\(d=false->∀s',Sub s s'->Q [.sl false 4 two.flatten.length (flat two.flatten),.int .i64 0] s'):=⟨_,aai two jg (by omega),fun e=>q1 (ka▸e),fun e=>by rw[kb e];exact q0 (ka▸e)⟩
 rw[<-hlen]
 rw[<-hlen]at hB' hl
 simp -implicitDefEqProofs only[go_sem,Nat.reduceBEq,Nat.reduceAdd,Nat.reduceMul,Nat.reduceLeDiff,Nat.reduceEqDiff,Nat.reduceBNe,UInt8.reduceToNat,UInt32.reduceToNat]
 refine dk (fun(i:Int)=>(⟨[(4,.ref B2 0),(6,.int .i64 i)],[],s1.set rb (.cells (flat two++sp))⟩:St)) rfl ?_ hn
 ·intro J i hb
  unfold nbB at hb
  cases hlt:decide (i<two.length)with
  |false=>
   rw[hlt,cond_false,ba]at hb
   simp -implicitDefEqProofs only[go_sem,Nat.reduceBEq,Nat.reduceAdd,Nat.reduceMul,Nat.reduceLeDiff,Nat.reduceEqDiff,Nat.reduceBNe,UInt8.reduceToNat,UInt32.reduceToNat,hB',hlt,bL]
   simp only[uU]at hb
   refine O7 hrb jg (by omega) (by omega) fun s' r' hs' hr'=>?_
   simp -implicitDefEqProofs only[go_sem,Nat.reduceBEq,Nat.reduceAdd,Nat.reduceMul,Nat.reduceLeDiff,Nat.reduceEqDiff,Nat.reduceBNe,UInt8.reduceToNat,UInt32.reduceToNat]
   refine NO rfl hr' rfl ?_
   simp -implicitDefEqProofs only[go_sem,Nat.reduceBEq,Nat.reduceAdd,Nat.reduceMul,Nat.reduceLeDiff,Nat.reduceEqDiff,Nat.reduceBNe,UInt8.reduceToNat,UInt32.reduceToNat]
   exact hb.2 trivial s' fun b o h=>hs' b o ((hs.set hrb) b o h)
  |true=>
   rw[hlt,cond_true,eW]at hb
   obtain⟨⟨h1,h2,h3,h4⟩,hb⟩:=hb
   have hi:i<two.length:=by simpa using hlt
   obtain⟨r1,r2⟩:=oi two sp (j:=i) (by omega) hi
   obtain⟨r3,r4⟩:=oi two sp (j:=i -1) (by omega) (by omega)
   have w1:aw (i -1)=i -1:=ar (by omega) (by omega)
   have w2:aw (i+1)=i+1:=ar (by omega) (by omega)
   generalize hcs:flat two++sp=cs at*
   have d1:=decide_eq_true r1
   have d3:=decide_eq_true r3
   simp -implicitDefEqProofs only[go_sem,Nat.reduceBEq,Nat.reduceAdd,Nat.reduceMul,Nat.reduceLeDiff,Nat.reduceEqDiff,Nat.reduceBNe,UInt8.reduceToNat,UInt32.reduceToNat,hB',hlt,w1,w2,r2,r4,d1,d3,bL]
   refine⟨⟨by omega,hi⟩,⟨Int.le_refl _,by omega⟩,⟨by omega,by omega⟩,⟨Int.le_refl _,by omega⟩,fun he=>?_,fun he=>?_⟩
   ·rw[he,cond_true,ba]at hb
    simp only[uU]at hb
    exact hb.1 trivial _ (hs.set hrb)
   ·rw[he,cond_false,ba]at hb
    exact hb
theorem MK{s:ae}{B2:Nat}{l:List aa}{k:Nat}{s':ae}(hs0:s B2=none)(hk:k<2^36)(hch:(iH l k).length=2)(h:Hg s B2 l k s'):
 Lo prog (RA xq) ⟨[(4,.ref B2 0),(5,qJ (iH l k))],[],s'⟩ fun E'=>Hg s B2 l (k+1) E'.s:=by
 have cf:room=140737488355328:=rfl
 obtain⟨s1,r,h1,h2,h3,rfl⟩:=h
 have hB:ji s1 r (c7 l k) B2=some (.cells [iO r k]):=oo h3 h1
 have hkl:(c7 l k).length=k:=AN l k
 generalize eM:ji s1 r (c7 l k)=st at hB
 rw[xq]
 conv in dec _=>reduce
 rw[RA]
 unfold qJ
 simp -implicitDefEqProofs only[go_sem,seval,hB]
 rw[oU]
 have fin:=Hm (E:=?_) (d:=?_) (K:=?_) (by':=24) (s:=s1) (r:=r) (l:=c7 l k) (z:=([]:VL)) (v:=(iH l k:VL)) (sz:=1) ?_ h3 rfl (by rw[hkl];omega) ?_
 ·rw[hkl]at fin
  exact fin
 ·exact eM.symm
 ·intro s2 r' g1 g2
  have hB2:s2 B2=some (.cells [iO r k]):=g1 _ _ h1
  have hB3:ji s2 r' (c7 l k++[iH l k]) B2=some (.cells [iO r k]):=oo g2 hB2
  rw[hkl]
  generalize Ry:ji s2 r' (c7 l k++[iH l k])=st2 at hB3
  simp -implicitDefEqProofs only[go_sem,seval,hB3]
  obtain⟨q1,q2⟩:=Tf (o':=.cells [iO r' (k+1)]) g2 hB2
  refine⟨s2.set B2 (.cells [iO r' (k+1)]),r',fH ..,fun b o hb=>?_,?_,?_⟩
  ·have hne:b≠B2:=fun e=>by subst e;rw[hs0]at hb;cases hb
   rw[ah hne]
   exact g1 _ _ (h2 _ _ hb)
  ·rw[m8];exact q2
  ·rw[m8,<-Ry];exact q1
theorem PF{l:List aa}{r:List aa×Int}{s:ae}(hl0:0<l.length)(h:ry l=some r):FE prog 159 [qJ l] s [.sl false 4 r.1.length (flat r.1),.int .i64 r.2] s:=by
 have cf:room=140737488355328:=rfl
 unfold ry at h
 obtain⟨⟨aj0,hl2⟩,h⟩:=Sg h
 obtain⟨K,hK⟩:∃K,l.length=2*K:=⟨l.length/2,by omega⟩
 have hK2:l.length/2=K:=by omega
 rw[hK2]at h
 have jg:∀c∈c7 l K,0<c.length:=fun c hc=>by
  unfold c7 at hc
  obtain⟨k,hk,rfl⟩:=List.mem_map.1 hc
  rw[nE l k (by have:=List.mem_range.1 hk;omega)];decide
 have adT:∀k,2*k<=l.length->(c7 l k).flatten.length=2*k:=fun k=>by
  induction k with
  |zero=>intro _;rfl
  |succ k ih=>
   intro hk
   rw[m8,List.flatten_append,List.length_append,ih (by omega)]
   simp[nE l k (by omega)]
   omega
 have Ri:(c7 l K).length=K:=AN l K
 refine FN.Lt ?_
 intro G w vs hg ho hs ha
 have hI:=qC (n:=40) hg hs ha (by rfl) (show 1<=40 by decide)
 refine callsIn_wide.1 (callsIn_of_wp_marks (n:=3) Go.Proofs.Tryz.func159 DM trivial ?_ rfl)
 rw[KZ]
 have mixed:=mix
 refine piece (kA mix) DN hI (aK.refl G w) (fun E'=>E'=⟨[(0,qJ l)],[],s⟩) ?_ ?_
 ·rw[xm];(conv in dec _=>reduce);unfold qJ
  simp -implicitDefEqProofs only[go_sem,seval]
 rintro G1 σ1 a1 w1 hI1 hp1 rfl
 refine piece (kA mix) DP hI1 hp1 (fun E'=>∃B2,s B2=none/\E'=⟨[(0,qJ l),(4,.ref B2 0)],[],s.set B2 (.cells [.arr 0 0 0 0])⟩) ?_ ?_
 ·rw[xn];(conv in dec _=>reduce);unfold qJ
  simp -implicitDefEqProofs only[go_sem,seval]
  intro B2 hB2
  exact⟨B2,hB2,rfl⟩
 rintro G2 σ2 a2 w2 hI2 hp2 ⟨B2,hB2,rfl⟩
 refine wpIn_seq (piece (kA mix) DQ hI2 hp2 (fun E'=>∃Bs,(s.set B2 (.cells [.arr 0 0 0 0])) Bs=none/\∃Bn,((s.set B2 (.cells [.arr 0 0 0 0])).set Bs (.cells [qJ l])) Bn=none/\
  E'=⟨[(4,.ref B2 0),(8,.fn 260 [] [.ref Bs 0,.ref Bn 0])],[],((s.set B2 (.cells [.arr 0 0 0 0])).set Bs (.cells [qJ l])).set Bn (.cells [.int .i64 2])⟩) ?_ ?_)
 ·rw[xp];(conv in dec _=>reduce);unfold qJ
  simp -implicitDefEqProofs only[go_sem,seval]
  refine JD fun Bs h1 Bn h2=>?_
  simp -implicitDefEqProofs only[go_sem,seval]
  exact⟨Bs,h1,Bn,h2,rfl⟩
 rintro G3 σ3 a3 w3 hI3 hp3 ⟨Bs,hBs,Bn,hBn,rfl⟩
 have n1:=hBs
 rw[iD]at n1
 have n2:=hBn
 rw[iD]at n2
 have n3:=n2.2
 rw[iD]at n3
 have hsz:=hI3.size
 have e8:a3.tmps[8]? =some (a3.eval (.tmp 8)):=fR (by rw[hsz];decide)
 have e4:a3.tmps[4]? =some (a3.eval (.tmp 4)):=fR (by rw[hsz];decide)
 have v8:VR w3 G3.R (.fn 260 [] [.ref Bs 0,.ref Bn 0]) (a3.eval (.tmp 8)):=(hI3.cm 8 _ e8).1
 have v4:VR w3 G3.R (.ref B2 0) (a3.eval (.tmp 4)):=(hI3.cm 4 _ e4).1
 obtain⟨vf,vc,hv8,hvf,_,hvc,HQ⟩:=VR.RG v8
 obtain rfl:vf= #[]:=Array.eq_empty_of_size_eq_zero hvf
 obtain rfl:vc= #[.pointer (some ⟨Bs,0,none⟩),.pointer (some ⟨Bn,0,none⟩)]:=by
  obtain⟨vl⟩:=vc
  match vl,hvc,HQ with
  |[x,y],_,HQ=>rw[VR.fZ (HQ 0 _ x rfl rfl),VR.fZ (HQ 1 _ y rfl rfl)]
 have hBx:(((s.set B2 (.cells [.arr 0 0 0 0])).set Bs (.cells [qJ l])).set Bn (.cells [.int .i64 2])) Bs=some (.cells [qJ l]):=by rw[ah n2.1.symm,fH]
 have hBy:(((s.set B2 (.cells [.arr 0 0 0 0])).set Bs (.cells [qJ l])).set Bn (.cells [.int .i64 2])) Bn=some (.cells [.int .i64 2]):=fH ..
 obtain⟨hOs,_,cs,ts,hhs,⟨Zs,Zt⟩,_⟩:=hI3.store Bs _ hBx
 obtain⟨hOn,_,cn,tn,hhn,⟨Zp,Zq⟩,_⟩:=hI3.store Bn _ hBy
 obtain⟨x,rfl⟩:∃x,cs= #[x]:=by
  obtain⟨cl⟩:=cs
  match cl,Zs with
  |[x],_=>exact⟨x,rfl⟩
 obtain⟨y,rfl⟩:∃y,cn= #[y]:=by
  obtain⟨cl⟩:=cn
  match cl,Zp with
  |[x],_=>exact⟨x,rfl⟩
 have hx:VR w3 G3.R (qJ l) x:=(Zt 0 _ x rfl rfl).1
 have hy:y=.int .i64 2:=VR.dj (Zq 0 _ y rfl rfl).1
 subst hy
 unfold qJ at hx
 rcases VR.ik hx with⟨_,he,_⟩|⟨b,off,cap,rfl,hlen,hRb,fL,hat⟩
 ·exact absurd he (by omega)
 refine wpIn_block ?_
 rw[Xd,Qu]
 let tA:Nat->Array Value:=fun k=>a3.tmps.setIfInBounds 9 (fc b off k)
 have Rr:∀k,((#[9]:Array Tmp).zip #[fc b off k]).foldl (fun t(p,v)=>t.setIfInBounds p v) a3.tmps=tA k:=fun k=>by simp[tA]
 have hav:∀k,k<K->VR w3 G3.R (qJ (iH l k)) (fc b off k):=fun k hk=>QF hRb hat (by omega)
 refine Yq hI3 hv8 (fun args w=>kW Go.Proofs.Tryz.func260 (by kernel_rfl) (by kernel_rfl) args) (K:=K) (k9:=fc b off) (avs:=fun k=>qJ (iH l k)) (S:=Hg s B2 l) [Bs,Bn] ?_ hav ?_ (fun k=>({tmps:=tA k,defers:=[]}:Act).put (some 5) (fc b off k)) ?_ ?_ ?_ ?_
 ·intro b' hb'
  simp only[List.mem_cons,List.not_mem_nil,or_false]at hb'
  rcases hb' with rfl|rfl
  ·exact mo.2 hOs
  ·exact mo.2 hOn
 ·refine⟨_,none,?_,fun b' o hb'=>?_,rfl,rfl⟩
  ·show(if B2∈[Bs,Bn]then none else(((s.set B2 (.cells [.arr 0 0 0 0])).set Bs (.cells [qJ l])).set Bn (.cells [.int .i64 2])) B2)=_
   rw[if_neg (by simp only[List.mem_cons,List.not_mem_nil,or_false,not_or];exact⟨n1.1.symm,n3.1.symm⟩),ah n3.1.symm,ah n1.1.symm,fH]
   rfl
  ·have e1:b'≠B2:=fun e=>by subst e;rw[hB2]at hb';cases hb'
   have e2:b'≠Bs:=fun e=>by subst e;rw[n1.2]at hb';cases hb'
   have e3:b'≠Bn:=fun e=>by subst e;rw[n3.2]at hb';cases hb'
   show(if b'∈[Bs,Bn]then none else(((s.set B2 (.cells [.arr 0 0 0 0])).set Bs (.cells [qJ l])).set Bn (.cells [.int .i64 2])) b')=_
   rw[if_neg (by simp only[List.mem_cons,List.not_mem_nil,or_false,not_or];exact⟨e2,e3⟩),ah e3,ah e2,ah e1]
   exact hb'
 ·intro lo J W hbx hdr hY h0
  have c1:w3.cell? ⟨Bs,0,none⟩=some (.slice (some ⟨b,off,none⟩) (2*K) cap):=by rw[<-hK];simp[World.cell?,hhs]
  have c2:w3.cell? ⟨Bn,0,none⟩=some (.int .i64 2):=by simp[World.cell?,hhn]
  exact O1 (lo:=lo) (Bs:=Bs) (Bn:=Bn) (b:=b) (off:=off) (K:=K) (cap:=cap) (by omega) (by omega) (fun k W h=>⟨(World.cell?_of_block (hbx k W h Bs (by simp))).trans c1,(World.cell?_of_block (hbx k W h Bn (by simp))).trans c2⟩) hdr hY h0
 ·intro lo k W K' hk
  rw[Rr]
  have hev:({tmps:=tA k,defers:=[]}:Act).eval (.tmp 9)=fc b off k:=by
   show(a3.tmps.setIfInBounds 9 (fc b off k)).getD 9 undef=_
   rw[Array.getD_eq_getD_getElem?,Array.getElem?_setIfInBounds_self_of_lt (by rw[hsz];decide)]
   rfl
  refine wpIn_region_list (wpListIn_plain rfl fun K2 hK2=>⟨fun _ _=>trivial,?_⟩)
  rw[<-hev]at hk
  exact hK2 _ _ hk
 ·intro k hk lo G' W s' g1 g2 g3 hS hv R hR
  refine Te ML KY (Vo (n:=40) (i:=4) (j:=5) (x:=.ref B2 0) (y:=qJ (iH l k)) (t:=(tA k).setIfInBounds 5 (fc b off k)) (by decide) (by decide) (by decide) g1 g3 ?_ ⟨rfl,rfl⟩ ⟨rfl,rfl⟩ ?_ ?_) (MK hB2 (by omega) (nE l k (by omega)) hS) hR
  ·show((a3.tmps.setIfInBounds 9 _).setIfInBounds 5 _).size=_
   rw[Array.size_setIfInBounds,Array.size_setIfInBounds,hsz]
  ·intro v hv4
   have hv4:((a3.tmps.setIfInBounds 9 (fc b off k)).setIfInBounds 5 (fc b off k))[4]? =some v:=hv4
   rw[Array.getElem?_setIfInBounds_ne (by decide),Array.getElem?_setIfInBounds_ne (by decide),e4,VR.fZ v4]at hv4
   injection hv4 with hv4
   rw[<-hv4]
   exact .ref _ _
  ·intro v hv5
   have hv5:((a3.tmps.setIfInBounds 9 (fc b off k)).setIfInBounds 5 (fc b off k))[5]? =some v:=hv5
   rw[Array.getElem?_setIfInBounds_self_of_lt (by rw[Array.size_setIfInBounds,hsz];decide)]at hv5
   injection hv5 with hv5
   rw[<-hv5]
   exact hv
 ·intro G4 W4 s4 hS hI4 hp4 ah0
  obtain⟨s1,r1,h1,h2,h3,rfl⟩:=hS
  obtain⟨rb,ajK,sp,rfl⟩:=Th h3 (by rw[Ri];omega)
  have hlt:w3.heap.size<(w3.alloc (.deferred (some []))).heap.size:=by rw[World.size_alloc];omega
  refine last (kA mix) DR (hI4.vU [4]) hp4 (FB gO fun rs s''=>∃s2,Sub s2 s''/\(rs=[.sl false 4 r.1.length (flat r.1),.int .i64 r.2]/\s2=s)) ?_ ?_
  ·refine K1 (s:=s) (by rw[Ri];exact h1) h3.1 h2 (by rw[Ri];omega) jg (by rw[adT K (by omega)];omega) (fun e s' hs'=>?_) (fun e s' hs'=>?_)
   ·rw[e,cond_true]at h
    cases h
    exact⟨s,hs',rfl,rfl⟩
   ·rw[e,cond_false]at h
    cases h
    exact⟨s,hs',rfl,rfl⟩
  ·intro x G5 E' a' W5 k1 k2 k3
   have pk:∀(eD:wU (j5 E' gO)=true)(hq:∃s2,Sub s2 E'.s/\(j5 E' gO=[.sl false 4 r.1.length (flat r.1),.int .i64 r.2]/\s2=s)),_:=fun eD hq=>Lg (Q:=fun rs s''=>∃s2,Sub s2 s''/\(rs=[.sl false 4 r.1.length (flat r.1),.int .i64 r.2]/\s2=s)) GO k1 ((hp3.trans (fU hI3.bj _ .frame 0).2.1).trans k2) (k2.jr _ hlt (by simp)).1 ((k2.jr _ hlt (by simp)).2.trans (by simp)) ((k2.frame _ hlt (.inl (by simp))).trans (World.alloc_heap_new w3 _)) hp3.size eD hq
   cases x with
   |ret=>exact pk k3.1 k3.2
   |normal=>exact pk k3.1 k3.2
   |_=>exact k3.elim
theorem Ve{s:ae}{Q:List AV->ae->Prop}(hq:Q [] s):FN prog 287 [.arr 0 0 0 0,.int .i64 0,.int .i64 0,.fn 213 [] []] s Q:=by
 refine FO De rfl rfl ?_
 rw[xl]
 conv in dec _=>reduce
 have w1:aw ((0:Int)+1)=1:=rfl
 have h1:decide ((1:Int)<0)=false:=rfl
 simp -implicitDefEqProofs only[go_sem,seval,w1]
 refine eV 0 (fun _ τ=>τ=(⟨[(0,.arr 0 0 0 0),(1,.int .i64 0),(2,.int .i64 0),(3,.fn 213 [] []),(8,.int .i64 1)],[],s⟩:St)) (by decide) rfl (fun k hk=>by omega) ?_
 rintro J τ rfl
 simp -implicitDefEqProofs only[go_sem,seval,h1,bL]
 exact hq
theorem Ts{s:ae}{Q:List AV->ae->Prop}(hq:Q [] s):FN prog 261 [.arr 0 0 0 0,.int .i64 0,.fn 213 [] []] s Q:=by
 refine FO N8 rfl rfl ?_
 rw[HU]
 conv in dec _=>reduce
 have h1:decide ((20:Int)<=0)=false:=rfl
 have h2:decide ((20:Int)<0)=false:=rfl
 simp -implicitDefEqProofs only[go_sem,seval]
 refine eV 0 (fun _ τ=>τ=(⟨[(0,.arr 0 0 0 0),(1,.int .i64 0),(2,.fn 213 [] []),(6,.int .i64 20),(7,.int .i64 0),(8,.int .i64 20)],[],s⟩:St)) (by decide) rfl (fun k hk=>by omega) ?_
 rintro J τ rfl
 simp -implicitDefEqProofs only[go_sem,seval,h1,bL]
 refine Ve ?_
 simp -implicitDefEqProofs only[go_sem,seval,bL]
 refine eV 0 (fun _ τ=>τ=(⟨[(0,.arr 0 0 0 0),(1,.int .i64 0),(2,.fn 213 [] []),(6,.int .i64 20)],[],s⟩:St)) (by decide) rfl (fun k hk=>by omega) ?_
 rintro J τ rfl
 simp -implicitDefEqProofs only[go_sem,seval,h2,bL]
 exact hq
theorem Tn{s:ae}{Q:List AV->ae->Prop}(hq:Q [] s):FN prog 212 [.arr 0 0 0 0,.fn 213 [] []] s Q:=by
 refine FO Gx rfl rfl ?_
 rw[zW]
 conv in dec _=>reduce
 simp -implicitDefEqProofs only[go_sem,seval]
 refine Ts ?_
 simp -implicitDefEqProofs only[go_sem,seval,bL]
 exact hq
theorem LX{s:ae}{Q:List AV->ae->Prop}(hq:∀s' r',Sub s s'->gR s' r' ([]:List aa)->Q [iO r' 0] (ji s' r' ([]:List aa))):FN prog 215 [.arr 0 0 0 0] s Q:=by
 have cf:room=140737488355328:=rfl
 refine FO Gw rfl rfl ?_
 rw[zU]
 conv in dec _=>reduce
 have h1:decide ((0:Int)<0)=false:=rfl
 simp -implicitDefEqProofs only[go_sem,seval]
 refine eV 0 (fun _ τ=>τ=(⟨[(0,.arr 0 0 0 0),(3,.int .i64 0),(9,.arr 0 0 0 0),(10,.int .i64 0),(11,.int .i64 0)],[],s⟩:St)) (by decide) rfl (fun k hk=>by omega) ?_
 rintro J τ rfl
 simp -implicitDefEqProofs only[go_sem,seval,h1,bL]
 refine NQ (k:=0) (by omega) fun s1 r1 hs1 hr1=>?_
 simp -implicitDefEqProofs only[go_sem,seval,bL]
 refine eV 0 (fun _ τ=>τ=(⟨[(6,iO r1 0),(25,.arr 0 0 0 0),(26,.int .i64 0),(27,.int .i64 0)],[],ji s1 r1 ([]:List aa)⟩:St)) (by decide) ?_ (fun k hk=>by omega) ?_
 ·first|rfl|trace_state
 rintro J τ rfl
 simp -implicitDefEqProofs only[go_sem,seval,h1,bL]
 exact hq s1 r1 hs1 hr1
theorem K0{s s1:ae}{B2:Nat}{Q:List AV->ae->Prop}(hB:s1 B2=some (.cells [.arr 0 0 0 0]))(hs:Sub s s1)(q0:∀s',Sub s s'->Q [.sl false 4 0 [],.int .i64 0] s'):
 fK prog nR (FB gO Q) ⟨[(4,.ref B2 0)],[],s1⟩:=by
 rw[nR,gO]
 conv in dec _=>reduce
 have h1:decide ((1:Int)<0)=false:=rfl
 simp -implicitDefEqProofs only[go_sem,seval,hB]
 refine Tn ?_
 simp -implicitDefEqProofs only[go_sem,seval,bL]
 refine eV 0 (fun _ τ=>τ=(⟨[(4,.ref B2 0),(6,.int .i64 1)],[],s1⟩:St)) (by decide) rfl (fun k hk=>by omega) ?_
 rintro J τ rfl
 simp -implicitDefEqProofs only[go_sem,seval,hB,h1,bL]
 refine LX fun s' r' hs' hr'=>?_
 simp -implicitDefEqProofs only[go_sem,seval,bL]
 refine NO rfl hr' rfl ?_
 simp -implicitDefEqProofs only[go_sem,seval,bL]
 exact q0 s' fun b o h=>hs' b o (hs b o h)
end Go.AB
end
section
set_option maxRecDepth 4000
namespace Go.AB
open Go Go.Proofs Go.RowKit
open Go.Proofs.Tryz (prog)
attribute[local go_sem] Oper.semAt_some
set_option maxHeartbeats 2000000 in
theorem O0{lo Bs Bn cap:Nat}{pt:Option Addr}{J:World->Prop}{W:World}(U2:∀W,J W->W.cell? ⟨Bs,0,none⟩=some (.slice pt 0 cap)/\W.cell? ⟨Bn,0,none⟩=some (.int .i64 2))(hd:∀W,J W->J W.drew)(h0:J W):
 CallsIn Fence.wide 2 prog 260 #[.func (.yield lo) #[] #[],.pointer (some ⟨Bs,0,none⟩),.pointer (some ⟨Bn,0,none⟩)] W fun e W'=>(∃v,e=.returned v)/\J W':=by
 have mixed:=mix
 refine callsIn_of_wp Go.Proofs.Tryz.func260 rfl trivial ?_ rfl
 simp only[show Go.Proofs.Tryz.f260.ntmps=31 from rfl,List.size_toArray,List.length_cons,List.length_nil,Nat.reduceAdd,Nat.reduceSub,Array.replicate_succ,Array.replicate_zero,List.push_toArray,List.append_toArray,List.nil_append,List.cons_append]
 gi_wp2
 gi_loopw [4] (fun i wr=>i=.int .i64 0/\J wr) (fun _ _=>0)
 case atStart=>exact⟨rfl,h0⟩
 case round=>
  obtain⟨rfl,hJ⟩:=hrel
  obtain⟨hb1,hb2⟩:=U2 _ hJ
  gi_wp2
  go_end0
  exact⟨⟨_,rfl⟩,hJ⟩
end Go.AB
end
section
set_option maxRecDepth 4000
namespace Go.AB
open Go
open Go.Proofs.Tryz (prog)
attribute[-go_sem] Nat.add_zero pj cT ck cN bK cj
theorem PE{s:ae}:FE prog 159 [qJ []] s [.sl false 4 0 [],.int .i64 0] s:=by
 have cf:room=140737488355328:=rfl
 refine FN.Lt ?_
 intro G w vs hg ho hs ha
 have hI:=qC (n:=40) hg hs ha (by rfl) (show 1<=40 by decide)
 refine callsIn_wide.1 (callsIn_of_wp_marks (n:=3) Go.Proofs.Tryz.func159 DM trivial ?_ rfl)
 rw[KZ]
 have mixed:=mix
 refine piece (kA mix) DN hI (aK.refl G w) (fun E'=>E'=⟨[(0,qJ [])],[],s⟩) ?_ ?_
 ·rw[xm];(conv in dec _=>reduce);unfold qJ
  simp -implicitDefEqProofs only[go_sem,seval]
 rintro G1 σ1 a1 w1 hI1 hp1 rfl
 refine piece (kA mix) DP hI1 hp1 (fun E'=>∃B2,s B2=none/\E'=⟨[(0,qJ []),(4,.ref B2 0)],[],s.set B2 (.cells [.arr 0 0 0 0])⟩) ?_ ?_
 ·rw[xn];(conv in dec _=>reduce);unfold qJ
  simp -implicitDefEqProofs only[go_sem,seval]
  intro B2 hB2
  exact⟨B2,hB2,rfl⟩
 rintro G2 σ2 a2 w2 hI2 hp2 ⟨B2,hB2,rfl⟩
 refine wpIn_seq (piece (kA mix) DQ hI2 hp2 (fun E'=>∃Bs,(s.set B2 (.cells [.arr 0 0 0 0])) Bs=none/\∃Bn,((s.set B2 (.cells [.arr 0 0 0 0])).set Bs (.cells [qJ []])) Bn=none/\
  E'=⟨[(4,.ref B2 0),(8,.fn 260 [] [.ref Bs 0,.ref Bn 0])],[],((s.set B2 (.cells [.arr 0 0 0 0])).set Bs (.cells [qJ []])).set Bn (.cells [.int .i64 2])⟩) ?_ ?_)
 ·rw[xp];(conv in dec _=>reduce);unfold qJ
  simp -implicitDefEqProofs only[go_sem,seval]
  refine JD (l:=[]) fun Bs h1 Bn h2=>?_
  simp -implicitDefEqProofs only[go_sem,seval]
  exact⟨Bs,h1,Bn,h2,rfl⟩
 rintro G3 σ3 a3 w3 hI3 hp3 ⟨Bs,hBs,Bn,hBn,rfl⟩
 have n1:=hBs
 rw[iD]at n1
 have n2:=hBn
 rw[iD]at n2
 have n3:=n2.2
 rw[iD]at n3
 have hsz:=hI3.size
 have e8:a3.tmps[8]? =some (a3.eval (.tmp 8)):=fR (by rw[hsz];decide)
 have e4:a3.tmps[4]? =some (a3.eval (.tmp 4)):=fR (by rw[hsz];decide)
 have v8:VR w3 G3.R (.fn 260 [] [.ref Bs 0,.ref Bn 0]) (a3.eval (.tmp 8)):=(hI3.cm 8 _ e8).1
 have v4:VR w3 G3.R (.ref B2 0) (a3.eval (.tmp 4)):=(hI3.cm 4 _ e4).1
 obtain⟨vf,vc,hv8,hvf,_,hvc,HQ⟩:=VR.RG v8
 obtain rfl:vf= #[]:=Array.eq_empty_of_size_eq_zero hvf
 obtain rfl:vc= #[.pointer (some ⟨Bs,0,none⟩),.pointer (some ⟨Bn,0,none⟩)]:=by
  obtain⟨vl⟩:=vc
  match vl,hvc,HQ with
  |[x,y],_,HQ=>rw[VR.fZ (HQ 0 _ x rfl rfl),VR.fZ (HQ 1 _ y rfl rfl)]
 have hBx:(((s.set B2 (.cells [.arr 0 0 0 0])).set Bs (.cells [qJ []])).set Bn (.cells [.int .i64 2])) Bs=some (.cells [qJ []]):=by rw[ah n2.1.symm,fH]
 have hBy:(((s.set B2 (.cells [.arr 0 0 0 0])).set Bs (.cells [qJ []])).set Bn (.cells [.int .i64 2])) Bn=some (.cells [.int .i64 2]):=fH ..
 obtain⟨hOs,_,cs,ts,hhs,⟨Zs,Zt⟩,_⟩:=hI3.store Bs _ hBx
 obtain⟨hOn,_,cn,tn,hhn,⟨Zp,Zq⟩,_⟩:=hI3.store Bn _ hBy
 obtain⟨x,rfl⟩:∃x,cs= #[x]:=by
  obtain⟨cl⟩:=cs
  match cl,Zs with
  |[x],_=>exact⟨x,rfl⟩
 obtain⟨y,rfl⟩:∃y,cn= #[y]:=by
  obtain⟨cl⟩:=cn
  match cl,Zp with
  |[x],_=>exact⟨x,rfl⟩
 have hx:VR w3 G3.R (qJ []) x:=(Zt 0 _ x rfl rfl).1
 have hy:y=.int .i64 2:=VR.dj (Zq 0 _ y rfl rfl).1
 subst hy
 unfold qJ at hx
 obtain⟨pt,cap,rfl⟩:∃pt cap,x=.slice pt 0 cap:=by
  rcases VR.ik hx with⟨he,_,_⟩|⟨b,off,cap,rfl,_,_,_,_⟩
  ·exact he.ex
  ·exact⟨_,_,rfl⟩
 have Rr:((#[9]:Array Tmp).zip #[undef]).foldl (fun t(p,v)=>t.setIfInBounds p v) a3.tmps=a3.tmps.setIfInBounds 9 undef:=by simp
 refine wpIn_block ?_
 rw[Xd,Qu]
 refine Yq hI3 hv8 (fun args w=>kW Go.Proofs.Tryz.func260 (by kernel_rfl) (by kernel_rfl) args) (K:=0) (k9:=fun _=>undef) (avs:=fun _=>.undef) (S:=fun _ s'=>s' B2=some (.cells [.arr 0 0 0 0])/\Sub s s') [Bs,Bn] ?_ (fun k hk=>by omega) ?_ (fun k=>({tmps:=a3.tmps.setIfInBounds 9 undef,defers:=[]}:Act).put (some 5) undef) ?_ ?_ (fun k hk=>by omega) ?_
 ·intro b' hb'
  simp only[List.mem_cons,List.not_mem_nil,or_false]at hb'
  rcases hb' with rfl|rfl
  ·exact mo.2 hOs
  ·exact mo.2 hOn
 ·refine⟨?_,fun b' o hb'=>?_⟩
  ·show(if B2∈[Bs,Bn]then none else(((s.set B2 (.cells [.arr 0 0 0 0])).set Bs (.cells [qJ []])).set Bn (.cells [.int .i64 2])) B2)=_
   rw[if_neg (by simp only[List.mem_cons,List.not_mem_nil,or_false,not_or];exact⟨n1.1.symm,n3.1.symm⟩),ah n3.1.symm,ah n1.1.symm,fH]
  ·have e1:b'≠B2:=fun e=>by subst e;rw[hB2]at hb';cases hb'
   have e2:b'≠Bs:=fun e=>by subst e;rw[n1.2]at hb';cases hb'
   have e3:b'≠Bn:=fun e=>by subst e;rw[n3.2]at hb';cases hb'
   show(if b'∈[Bs,Bn]then none else(((s.set B2 (.cells [.arr 0 0 0 0])).set Bs (.cells [qJ []])).set Bn (.cells [.int .i64 2])) b')=_
   rw[if_neg (by simp only[List.mem_cons,List.not_mem_nil,or_false,not_or];exact⟨e2,e3⟩),ah e3,ah e2,ah e1]
   exact hb'
 ·intro lo J W hbx hdr hY h0
  have c1:w3.cell? ⟨Bs,0,none⟩=some (.slice pt 0 cap):=by simp[World.cell?,hhs]
  have c2:w3.cell? ⟨Bn,0,none⟩=some (.int .i64 2):=by simp[World.cell?,hhn]
  exact O0 (lo:=lo) (Bs:=Bs) (Bn:=Bn) (J:=J 0) (fun W h=>⟨(World.cell?_of_block (hbx 0 W h Bs (by simp))).trans c1,(World.cell?_of_block (hbx 0 W h Bn (by simp))).trans c2⟩) (fun W h=>hdr 0 W h) h0
 ·intro lo k W K' hk
  rw[Rr]
  have hev:({tmps:=a3.tmps.setIfInBounds 9 undef,defers:=[]}:Act).eval (.tmp 9)=undef:=by
   show(a3.tmps.setIfInBounds 9 (undef)).getD 9 undef=_
   rw[Array.getD_eq_getD_getElem?,Array.getElem?_setIfInBounds_self_of_lt (by rw[hsz];decide)]
   rfl
  refine wpIn_region_list (wpListIn_plain rfl fun K2 hK2=>⟨fun _ _=>trivial,?_⟩)
  have hk2:K' (({tmps:=a3.tmps.setIfInBounds 9 undef,defers:=[]}:Act).put (some 5) (({tmps:=a3.tmps.setIfInBounds 9 undef,defers:=[]}:Act).eval (.tmp 9))) W:=by rw[hev];exact hk
  exact hK2 _ _ hk2
 ·intro G4 W4 s4 hS hI4 hp4 ah0
  obtain⟨h1,h2⟩:=hS
  have hlt:w3.heap.size<(w3.alloc (.deferred (some []))).heap.size:=by rw[World.size_alloc];omega
  refine last (kA mix) DR (hI4.vU [4]) hp4 (FB gO fun rs s''=>∃s2,Sub s2 s''/\(rs=[.sl false 4 0 [],.int .i64 0]/\s2=s)) ?_ ?_
  ·exact K0 (s:=s) h1 h2 fun s' hs'=>⟨s,hs',rfl,rfl⟩
  ·intro x G5 E' a' W5 k1 k2 k3
   have pk:∀(eD:wU (j5 E' gO)=true)(hq:∃s2,Sub s2 E'.s/\(j5 E' gO=[.sl false 4 0 [],.int .i64 0]/\s2=s)),_:=fun eD hq=>Lg (Q:=fun rs s''=>∃s2,Sub s2 s''/\(rs=[.sl false 4 0 [],.int .i64 0]/\s2=s)) GO k1 ((hp3.trans (fU hI3.bj _ .frame 0).2.1).trans k2) (k2.jr _ hlt (by simp)).1 ((k2.jr _ hlt (by simp)).2.trans (by simp)) ((k2.frame _ hlt (.inl (by simp))).trans (World.alloc_heap_new w3 _)) hp3.size eD hq
   cases x with
   |ret=>exact pk k3.1 k3.2
   |normal=>exact pk k3.1 k3.2
   |_=>exact k3.elim
end Go.AB
end
section
namespace Go.AB
open Go
open Go.Proofs.Tryz (prog)
theorem Sz:xY ry:=fun s l r h=>by
 cases l with
 |nil=>
  have e:ry []=some ([],0):=rfl
  rw[e]at h;cases h
  exact PE
 |cons x l=>exact PF (by simp) h
def mq(b:List UInt8)(a:Int)(last:Bool):Option (aa×Int×Int):=rA ry b a last
theorem DS{b:List UInt8}{a:Int}{last:Bool}{s:ae}{r:aa×Int×Int}(h:mq b a last=some r):FE prog 34 [.sl false 1 b.length (flat b),.int .i64 a,.bool last] s
 [.agg [.int .i64 r.1.Kind,.int .i64 r.1.N,.str r.1.S.b,.sl false 4 r.1.L.length (flat r.1.L)],.int .i64 r.2.1,.int .i64 r.2.2] s:=
 FN.Lt (TS Sz ⟨r,h,fun s' hs=>⟨s,hs,rfl,rfl⟩⟩)
end Go.AB
end
section
end
section
set_option maxRecDepth 16000
namespace Go.AB
open Go
open Go.Proofs.Tryz (prog)
attribute[-go_sem] ck cN bK cj
structure b8 where
 b_:(List UInt8)
 at_:Int
 az:Bool
instance:bp b8:=⟨3,fun x=>[sF 1 x.b_,.int .i64 x.at_,.bool x.az],(b8.mk [] 0 false),by decide,fun _=>rfl,fun _=>rfl⟩
structure ai where
 af:b8
 e_:Int
instance:bp ai:=⟨4,fun x=>[sF 1 x.af.b_,.int .i64 x.af.at_,.bool x.af.az,.int .i64 x.e_],(ai.mk (b8.mk [] 0 false) 0),by decide,fun _=>rfl,fun _=>rfl⟩
def aD(r_0:ai)(e_1:Int):Option (ai):=
 if r_0.e_==0 then
  some (ai.mk r_0.af e_1)
 else
  some r_0
def l4:IC:=dec 0x189bdbb9d437a531ec04b8efcb9da2151040490aa07b0a71453e
theorem tJ:aS prog 36 13 [] l4=true:=by kernel_rfl
theorem c4{r_0 e_1}{B0:Nat}{s:ae}{Q:List AV->ae->Prop}(hB0:s B0=some (.cells [sF 1 r_0.af.b_,.int .i64 r_0.af.at_,.bool r_0.af.az,.int .i64 r_0.e_])):ok (aD r_0 e_1) (fun r=>Q [] (s.set B0 (.cells [sF 1 r.af.b_,.int .i64 r.af.at_,.bool r.af.az,.int .i64 r.e_])))->FN prog 36 [.ref B0 0,.int .i64 e_1] s Q:=by
 have hS:s=(s.set B0 (.cells [sF 1 r_0.af.b_,.int .i64 r_0.af.at_,.bool r_0.af.az,.int .i64 r_0.e_])):=by simp only[aY hB0]
 rw[hS]
 intro h
 refine FO tJ rfl rfl ?_
 revert h
 rw[l4,aD]
 conv in dec _=>reduce
 repeat'(first
  |simp -implicitDefEqProofs only[go_sem,seval])
def aG(r_0:ai)(w_1:aH):Option (ai):=
 if r_0.e_ !=0 then
  some r_0
 else
  aP (jO r_0.af.b_ r_0.af.at_ r_0.af.az w_1) fun r1=>
  some (ai.mk (b8.mk r_0.af.b_ r1.1 r_0.af.az) r1.2)
def l7:IC:=dec 0x881fd93eadf024c39bb86fe7c2fe06133933d5026eaaf01639f1abb147d7c7dc42eb231f7ced17c2d76671eb2f237ce702a766fd45340169383c2f97024fc51e993bccb0b00e2cd90a822f3cf54e8eb62ac40950de978c675375016b022097b3b5b9d50d6a3fc0de0ab2d3321a915fa4535dfb6f2e
theorem tL:aS prog 15 36 [] l7=true:=by kernel_rfl
theorem iU{r_0 w_1}{B0:Nat}{s:ae}{Q:List AV->ae->Prop}(hB0:s B0=some (.cells [sF 1 r_0.af.b_,.int .i64 r_0.af.at_,.bool r_0.af.az,.int .i64 r_0.e_])):ok (aG r_0 w_1) (fun r=>Q [] (s.set B0 (.cells [sF 1 r.af.b_,.int .i64 r.af.at_,.bool r.af.az,.int .i64 r.e_])))->FN prog 15 [.ref B0 0,.str w_1.b] s Q:=by
 have hS:s=(s.set B0 (.cells [sF 1 r_0.af.b_,.int .i64 r_0.af.at_,.bool r_0.af.az,.int .i64 r_0.e_])):=by simp only[aY hB0]
 rw[hS]
 intro h
 refine FO tL rfl rfl ?_
 revert h
 rw[l7,aG]
 conv in dec _=>reduce
 repeat'(first
  |(with_reducible first|exact cU|refine bP ?_ ?_|refine cX ?_|refine aF (fun _(h:jO r_0.af.b_ r_0.af.at_ r_0.af.az w_1=some _)=>Fp h) (fun r1=>?_))
  |simp -implicitDefEqProofs only[go_sem,seval])
def bU(r_0:ai)(HM:Int)(WL:Int):Option (Int×ai):=
 if r_0.e_ !=0 then
  some (0,r_0)
 else
  aP (ga r_0.af.b_ r_0.af.at_ r_0.af.az) fun r1=>
  jn (
   if(r1.2.2==0)&&((decide (r1.1<HM))||(decide (r1.1>WL)))then
    some 18
   else
    some r1.2.2) fun(e4:Int)=>
  some (r1.1,(ai.mk (b8.mk r_0.af.b_ r1.2.1 r_0.af.az) e4))
def kG:IC:=dec 0x1e5f58e73b352379f45586987cd2bafab7ba13aa5d684a7be134ab9894ffefb7c7a07ebf21da867f8192cd2eeb15169eca7be21786252b2da6e48490880ffcb4f4816339129d600cd9fc7638c1039b985d395b0948f92b70b8956c49cd048caa6219e9377cf56972e0ad12798ece0076872d963b8585d11963f7662cdc0a3425f63416c2d449cee991ad1c19188ca8767c9a4392cd64a80c830cca55ebc64023cdff723ecb996a3f5e8976400c0ba
theorem ri:aS prog 14 57 [⟨6,true,none⟩] kG=true:=by kernel_rfl
theorem kC{r_0 HM WL}{B0:Nat}{s:ae}{Q:List AV->ae->Prop}(hB0:s B0=some (.cells [sF 1 r_0.af.b_,.int .i64 r_0.af.at_,.bool r_0.af.az,.int .i64 r_0.e_])):ok (bU r_0 HM WL) (fun r=>Q [.int .i64 r.1] (s.set B0 (.cells [sF 1 r.2.af.b_,.int .i64 r.2.af.at_,.bool r.2.af.az,.int .i64 r.2.e_])))->FN prog 14 [.ref B0 0,.int .i64 HM,.int .i64 WL] s Q:=by
 have hS:s=(s.set B0 (.cells [sF 1 r_0.af.b_,.int .i64 r_0.af.at_,.bool r_0.af.az,.int .i64 r_0.e_])):=by simp only[aY hB0]
 rw[hS]
 intro h
 refine FO ri rfl rfl ?_
 revert h
 rw[kG,bU]
 conv in dec _=>reduce
 repeat'(first
  |(with_reducible first|exact cU|refine bP ?_ ?_|refine cX ?_|refine cK (fun _(h:ga r_0.af.b_ r_0.af.at_ r_0.af.az=some _)=>Bx h) (fun _=>rfl) (fun r1=>?_))
  |((with_reducible refine dm (fun(e4:Int)=>⟨[(0,.ref B0 0),(7,.int .i64 r1.1),(8,.int .i64 r1.2.1),(9,.int .i64 e4)],[],(s.set B0 (.cells [sF 1 r_0.af.b_,.int .i64 r_0.af.at_,.bool r_0.af.az,.int .i64 r_0.e_]))⟩) (fun J=>?_) ?_);rotate_left;rintro e4)
  |simp -implicitDefEqProofs only[go_sem,seval])
def bR(r_0:ai):Option (aa×ai):=
 if r_0.e_ !=0 then
  some ((aa.mk 0 0 (aH.mk []) ([]:List aa)),r_0)
 else
  aP (mq r_0.af.b_ r_0.af.at_ r_0.af.az) fun r1=>
  some (r1.1,(ai.mk (b8.mk r_0.af.b_ r1.2.1 r_0.af.az) r1.2.2))
def lj:IC:=dec 0x111deb00c874be5b9590d168fde9cce2d4d5b19cf723618731d2f569433517b763c0cedee1862b1a7ead0a0e3c63f65395cfcb80472444a93aa901c1840212111de088bcdea7d2b4a1baf7cc650d283d38e3c5388890f9bad9796a0eabf38359306986124e8c018d26f38299548e8505e7a1ea38ab19e23cdff723ec9916a81421f991eb37e0092753a
theorem sk:aS prog 16 42 [⟨2,false,some (4,true)⟩] lj=true:=by kernel_rfl
theorem se{r_0}{B0:Nat}{s:ae}{Q:List AV->ae->Prop}(hB0:s B0=some (.cells [sF 1 r_0.af.b_,.int .i64 r_0.af.at_,.bool r_0.af.az,.int .i64 r_0.e_])):ok (bR r_0) (fun r=>Q [oV r.1] (s.set B0 (.cells [sF 1 r.2.af.b_,.int .i64 r.2.af.at_,.bool r.2.af.az,.int .i64 r.2.e_])))->FN prog 16 [.ref B0 0] s Q:=by
 have hS:s=(s.set B0 (.cells [sF 1 r_0.af.b_,.int .i64 r_0.af.at_,.bool r_0.af.az,.int .i64 r_0.e_])):=by simp only[aY hB0]
 rw[hS]
 intro h
 refine FO sk rfl rfl ?_
 revert h
 rw[lj,bR]
 conv in dec _=>reduce
 repeat'(first
  |with_reducible exact cU
  |((with_reducible refine OU ?_ ?_);exact rfl)
  |(with_reducible first|refine bP ?_ ?_|refine cX ?_|refine cK (fun _(h:mq r_0.af.b_ r_0.af.at_ r_0.af.az=some _)=>DS h) (fun _=>rfl) (fun r1=>?_))
  |simp -implicitDefEqProofs only[go_sem,seval])
def a9(r_0:ai):Option (Bool×ai):=
 if r_0.e_ !=0 then
  some (false,r_0)
 else
  aP (du r_0.af.b_ r_0.af.at_ r_0.af.az) fun r1=>
  jn (
   if r1.2 !=0 then
    some (ai.mk (b8.mk r_0.af.b_ r1.1.To r_0.af.az) r1.2)
   else
    if r1.1.Kind==0 then
     aP (aD (ai.mk (b8.mk r_0.af.b_ r1.1.To r_0.af.az) r1.2) 10) fun r4=>
     some r4
    else
     if(r1.1.Kind !=6)||((!(r1.1.S.b==(aH.mk [101,110,100,111,98,106]).b))&&(!(r1.1.S.b==(aH.mk [115,116,114,101,97,109]).b)))then
      aP (aD (ai.mk (b8.mk r_0.af.b_ r1.1.To r_0.af.az) r1.2) 18) fun r5=>
      some r5
     else
      some (ai.mk (b8.mk r_0.af.b_ r1.1.To r_0.af.az) r1.2)) fun(o3:ai)=>
  some ((o3.e_==0)&&(r1.1.S.b==(aH.mk [115,116,114,101,97,109]).b),o3)
def jU:IC:=dec 0x1f7f7f3fabca7231f275b9510103907cb2250cfa41e40dce40fea326a5ae76cef0f3fd16d8be6b8242bc3093adaed750d6525c7a59bef9ad16e5ec28876eda90e9a46000df99d38688e08665bde5d512726adb4d808094650fb1bec7193609e67b3d3d99d470fc0dd237faec32fa61134b1e1dbce78911983456aebf264d1eb3c5452019708c76d63fe45ce8b742516e83ae181803f5545e79280e0489487a5160ec821e97783ec1ccfabcb461ba835c378ebb29313afd90b8dd78cb9ec3886b30d4ca42b4d813309dbbb9904a4f8a0f28b674ad643d3866bfe20bf7662cdc0a3425f63416c2d449cee991ad19ec918065e47f6ec272f216f1fc19cfba8e8fc23cdff723ec99129a1b2c824473a
theorem qh:aS prog 17 74 [⟨2,true,none⟩] jU=true:=by kernel_rfl
theorem pS{r_0}{B0:Nat}{s:ae}{Q:List AV->ae->Prop}(hB0:s B0=some (.cells [sF 1 r_0.af.b_,.int .i64 r_0.af.at_,.bool r_0.af.az,.int .i64 r_0.e_])):ok (a9 r_0) (fun r=>Q [.bool r.1] (s.set B0 (.cells [sF 1 r.2.af.b_,.int .i64 r.2.af.at_,.bool r.2.af.az,.int .i64 r.2.e_])))->FN prog 17 [.ref B0 0] s Q:=by
 have hS:s=(s.set B0 (.cells [sF 1 r_0.af.b_,.int .i64 r_0.af.at_,.bool r_0.af.az,.int .i64 r_0.e_])):=by simp only[aY hB0]
 rw[hS]
 intro h
 refine FO qh rfl rfl ?_
 revert h
 rw[jU,a9]
 conv in dec _=>reduce
 repeat'(first
  |with_reducible exact cU
  |((with_reducible refine OU ?_ ?_);exact rfl)
  |(with_reducible first|refine bP ?_ ?_|refine cX ?_|refine cK (fun _(h:du r_0.af.b_ r_0.af.at_ r_0.af.az=some _)=>jY h) (fun _=>rfl) (fun r1=>?_)|refine fun hh=>c4 (B0:=B0) (by simp -implicitDefEqProofs only[go_sem,seval]<;>simp only[ao]) (aO (show ok (aD (ai.mk (b8.mk r_0.af.b_ r1.1.To r_0.af.az) r1.2) 10) _ from hh) fun r4=>?_)|refine fun hh=>c4 (B0:=B0) (by simp -implicitDefEqProofs only[go_sem,seval]<;>simp only[ao]) (aO (show ok (aD (ai.mk (b8.mk r_0.af.b_ r1.1.To r_0.af.az) r1.2) 18) _ from hh) fun r5=>?_))
  |((with_reducible refine dm (fun(o3:ai)=>⟨[(0,.ref B0 0),(3,.loc [.int .i64 r1.1.Kind,.int .i64 r1.1.mY,.int .i64 r1.1.To,.int .i64 r1.1.V.Kind,.int .i64 r1.1.V.N,.str r1.1.V.S.b,sF 4 r1.1.V.L,.str r1.1.S.b])],[],(s.set B0 (.cells [sF 1 o3.af.b_,.int .i64 o3.af.at_,.bool o3.af.az,.int .i64 o3.e_]))⟩) (fun J=>?_) ?_);rotate_left;rintro o3)
  |simp -implicitDefEqProofs only[go_sem,seval])
def c8(p_0:b8):Option (Int):=
 if p_0.az then
  some 10
 else
  some 6
def mP:IC:=dec 0x6de8cfafaf9a6b582a0ce164a71a255e1b07feb50a5a1ffcc00473a
theorem vN:aS prog 80 7 [⟨2,true,none⟩] mP=true:=by kernel_rfl
theorem vF{p_0}{B0:Nat}{preB0 postB0:List AV}{oB0:Nat}{s:ae}{Q:List AV->ae->Prop}(hB0:s B0=some (.cells (Wi preB0 [sF 1 p_0.b_,.int .i64 p_0.at_,.bool p_0.az] postB0)))(eB0:preB0.length=oB0):ok (c8 p_0) (fun r=>Q [.int .i64 r] s)->FN prog 80 [.ref B0 oB0] s Q:=by
 subst eB0
 have hS:s=(s.set B0 (.cells (Wi preB0 [sF 1 p_0.b_,.int .i64 p_0.at_,.bool p_0.az] postB0))):=by simp only[aY hB0]
 rw[hS]
 intro h
 refine FO vN rfl rfl ?_
 revert h
 rw[mP,c8]
 conv in dec _=>reduce
 repeat'(first
  |simp -implicitDefEqProofs only[go_sem,seval])
theorem mM{p_0}{B0:Nat}{preB0 postB0:List AV}{oB0:Nat}{s:ae}{r:Int}(hB0:s B0=some (.cells (Wi preB0 [sF 1 p_0.b_,.int .i64 p_0.at_,.bool p_0.az] postB0)))(eB0:preB0.length=oB0)(h:c8 p_0=some r):FE prog 80 [.ref B0 oB0] s [.int .i64 r] s:=vF hB0 eB0 ⟨r,h,rfl,rfl⟩
def bI(r_0:ai):Option (ai):=
 jn (
  aL ((decide (r_0.af.at_<(r_0.af.b_.length:Int)))=true->0<=r_0.af.at_/\r_0.af.at_<r_0.af.b_.length)<|
  if(decide (r_0.af.at_<(r_0.af.b_.length:Int)))&&(((ix r_0.af.b_ r_0.af.at_).toNat:Int)==13)then
   some (ai.mk (b8.mk r_0.af.b_ (aw (r_0.af.at_+1)) r_0.af.az) r_0.e_)
  else
   some r_0) fun(o1:ai)=>
 if o1.e_ !=0 then
  some o1
 else
  if decide (o1.af.at_>=(o1.af.b_.length:Int))then
   aP (c8 o1.af) fun r2=>
   aP (aD o1 r2) fun r3=>
   some r3
  else
   aL (0<=o1.af.at_/\o1.af.at_<o1.af.b_.length)<|
   if((ix o1.af.b_ o1.af.at_).toNat:Int)!=10 then
    aP (aD o1 18) fun r4=>
    some r4
   else
    some (ai.mk (b8.mk o1.af.b_ (aw (o1.af.at_+1)) o1.af.az) o1.e_)
def l5:IC:=dec 0xb237ce6db816119d474b17e3befc48b688be35902f4aae51b4f075db8a04f1f785144656495f14080f00e64c67c89bd8c18fb6ce31ea346712b331234870c17e1f346159ba611531f7a9577a8edde9b476b5470f49bbf47cf5bace71edb950fedfa42fa40aa72327793cdbc19b0a0afb3919023ea1ef8a23c190b0497a543b81291fa9a9880439e6204c9337ac214e9fa871a028c13c3fa76427fd447190d62383dba18fbf1288cd5b033eeecd2cbc7e34b2a0e0d948aa02fe3485e0ae2c87f7b5b0972733165c4ae59b23a0ff286a8f0691326d16748befa2735028c9a038defe685edb6e5357abe125013a1ac09e0248cf05f94f577906e6aee5a10
theorem tK:aS prog 40 88 [] l5=true:=by kernel_rfl
theorem sS{r_0}{B0:Nat}{s:ae}{Q:List AV->ae->Prop}(hB0:s B0=some (.cells [sF 1 r_0.af.b_,.int .i64 r_0.af.at_,.bool r_0.af.az,.int .i64 r_0.e_])):ok (bI r_0) (fun r=>Q [] (s.set B0 (.cells [sF 1 r.af.b_,.int .i64 r.af.at_,.bool r.af.az,.int .i64 r.e_])))->FN prog 40 [.ref B0 0] s Q:=by
 have hS:s=(s.set B0 (.cells [sF 1 r_0.af.b_,.int .i64 r_0.af.at_,.bool r_0.af.az,.int .i64 r_0.e_])):=by simp only[aY hB0]
 rw[hS]
 intro h
 refine FO tK rfl rfl ?_
 revert h
 rw[l5,bI]
 conv in dec _=>reduce
 repeat'(first
  |(with_reducible first|exact cU|refine bP ?_ ?_|refine cX ?_|refine aF (fun _(h:c8 o1.af=some _)=>mM (B0:=B0) (preB0:=[]) (postB0:=[.int .i64 o1.e_]) (by simp -implicitDefEqProofs only[go_sem,seval]<;>simp only[ao]) (by first|rfl|simp) h) (fun r2=>?_)|refine fun hh=>c4 (B0:=B0) (by simp -implicitDefEqProofs only[go_sem,seval]<;>simp only[ao]) (aO (show ok (aD o1 r2) _ from hh) fun r3=>?_)|refine fun hh=>c4 (B0:=B0) (by simp -implicitDefEqProofs only[go_sem,seval]<;>simp only[ao]) (aO (show ok (aD o1 18) _ from hh) fun r4=>?_))
  |((with_reducible refine dm (fun(o1:ai)=>⟨[(0,.ref B0 0)],[],(s.set B0 (.cells [sF 1 o1.af.b_,.int .i64 o1.af.at_,.bool o1.af.az,.int .i64 o1.e_]))⟩) (fun J=>?_) ?_);rotate_left;rintro o1)
  |simp -implicitDefEqProofs only[go_sem,seval])
def aU(r_0:ai)(n_1:Int):Option ((List UInt8)×ai):=
 if r_0.e_ !=0 then
  some (([]:List UInt8),r_0)
 else
  if decide (n_1>aw ((r_0.af.b_.length:Int) -r_0.af.at_))then
   aP (c8 r_0.af) fun r1=>
   aP (aD r_0 r1) fun r2=>
   some (([]:List UInt8),r2)
  else
   aL (0<=aw ((aw (r_0.af.at_+n_1)) -n_1)/\aw ((aw (r_0.af.at_+n_1)) -n_1)<=aw (r_0.af.at_+n_1)/\aw (r_0.af.at_+n_1)<=r_0.af.b_.length)<|
   some (part r_0.af.b_ (aw ((aw (r_0.af.at_+n_1)) -n_1)) (aw (r_0.af.at_+n_1)),(ai.mk (b8.mk r_0.af.b_ (aw (r_0.af.at_+n_1)) r_0.af.az) r_0.e_))
def lh:IC:=dec 0x374f7278c413895bc4a23b9bebda7f8a850e10f6adccf59aa459cf74382655719638094e58ba7ca57855575b5745c898bd45149f2a214f25c1d5415404b2d66973e25f41079176201b22d6ce9ec98b6ae6195971fbc0a7279f6d75d7ce4b87a5bbdbab575f595fba5b41b719340971ab0b3f9b46a336abe68daf92d80752af6fb40733a0547e65e73016fa9586d31a287188b72847bf6086a3e7867815cb2730d0f2e3fa
theorem sj:aS prog 41 60 [⟨4,false,none⟩] lh=true:=by kernel_rfl
theorem sd{r_0 n_1}{B0:Nat}{s:ae}{Q:List AV->ae->Prop}(hB0:s B0=some (.cells [sF 1 r_0.af.b_,.int .i64 r_0.af.at_,.bool r_0.af.az,.int .i64 r_0.e_])):ok (aU r_0 n_1) (fun r=>Q [sF 1 r.1] (s.set B0 (.cells [sF 1 r.2.af.b_,.int .i64 r.2.af.at_,.bool r.2.af.az,.int .i64 r.2.e_])))->FN prog 41 [.ref B0 0,.int .i64 n_1] s Q:=by
 have hS:s=(s.set B0 (.cells [sF 1 r_0.af.b_,.int .i64 r_0.af.at_,.bool r_0.af.az,.int .i64 r_0.e_])):=by simp only[aY hB0]
 rw[hS]
 intro h
 refine FO sj rfl rfl ?_
 revert h
 rw[lh,aU]
 conv in dec _=>reduce
 repeat'(first
  |(with_reducible first|exact cU|refine bP ?_ ?_|refine cX ?_|refine aF (fun _(h:c8 r_0.af=some _)=>mM (B0:=B0) (preB0:=[]) (postB0:=[.int .i64 r_0.e_]) (by simp -implicitDefEqProofs only[go_sem,seval]<;>simp only[ao]) (by first|rfl|simp) h) (fun r1=>?_)|refine fun hh=>c4 (B0:=B0) (by simp -implicitDefEqProofs only[go_sem,seval]<;>simp only[ao]) (aO (show ok (aD r_0 r1) _ from hh) fun r2=>?_))
  |simp -implicitDefEqProofs only[go_sem,seval])
def ij(v_0:aa):Option (Bool×Bool):=
 aP (fS v_0 (aH.mk [70,105,108,116,101,114])) fun r1=>
 jn (
  if(r1.1.Kind==6)&&((r1.1.L.length:Int)==1)then
   aL (0<=(0:Int)/\(0:Int)<r1.1.L.length)<|
   some (ix r1.1.L 0)
  else
   some r1.1) fun(f2:aa)=>
 some (r1.2,(!r1.2)||((f2.Kind==5)&&(f2.S.b==(aH.mk [70,108,97,116,101,68,101,99,111,100,101]).b)))
def rS:IC:=dec 0x4f813041a3f6d619598e4aa5799a241db6cd23ec557bde6277c9d1e04c6d41e9bf5a41e20e6636f24a9ade2700de94e67ca2571829388099e91bd2032b90ab53533c0ee169ffbdbdcf0b13f4e07886267bfc0106733a35491f89401cd0843df2c7ba49281169bc84865daf54f4b8a423e2a16708b32b25b15210e4c7222ba6aa0cab050c43fd0b07efdcd0b833c982c6ea8ec36830399ac
theorem Bo:aS prog 38 37 [⟨2,true,none⟩,⟨3,true,none⟩] rS=true:=by kernel_rfl
theorem Bi{v_0}{s:ae}{Q:List AV->ae->Prop}:ok (ij v_0) (fun r=>Q [.bool r.1,.bool r.2] s)->FN prog 38 [oV v_0] s Q:=by
 intro h
 refine FO Bo rfl rfl ?_
 revert h
 rw[rS,ij]
 conv in dec _=>reduce
 repeat'(first
  |with_reducible refine aF (fun _(h:fS v_0 (aH.mk [70,105,108,116,101,114])=some _)=>rJ h) (fun r1=>?_)
  |((with_reducible refine dm (fun(f2:aa)=>⟨[(4,.loc [.int .i64 f2.Kind,.int .i64 f2.N,.str f2.S.b,sF 4 f2.L]),(5,.bool r1.2)],[],s⟩) (fun J=>?_) ?_);rotate_left;rintro f2)
  |simp -implicitDefEqProofs only[go_sem,seval])
theorem Bh{v_0}{s:ae}{r:Bool×Bool}(h:ij v_0=some r):FE prog 38 [oV v_0] s [.bool r.1,.bool r.2] s:=Bi ⟨r,h,rfl,rfl⟩
def bt(r_0:ai)(v_1:aa):Option (a8×ai):=
 aP (fS v_1 (aH.mk [76,101,110,103,116,104])) fun r1=>
 aP (ij v_1) fun r2=>
 jn (
  aP (en (!((((v_1.Kind !=7)||(r1.1.Kind !=2))||(decide (r1.1.N<0)))||(decide (r1.1.N>16777216)))) false (eH v_1 (aH.mk [68,101,99,111,100,101,80,97,114,109,115]))) fun r8=>
  if(((((v_1.Kind !=7)||(r1.1.Kind !=2))||(decide (r1.1.N<0)))||(decide (r1.1.N>16777216)))||r8)||(!r2.2)then
   aP (aD r_0 18) fun r9=>
   some r9
  else
   some r_0) fun(o7:ai)=>
 aP (bI o7) fun r10=>
 aP (aU r10 r1.1.N) fun r11=>
 aP (aG r11.2 (aH.mk [101,110,100,115,116,114,101,97,109])) fun r12=>
 aP (aG r12 (aH.mk [101,110,100,111,98,106])) fun r13=>
 jn (
  if r2.1&&(r13.e_==0)then
   aP (jc r11.1 16777216) fun r18=>
   jn (
    if r18.2.2 !=0 then
     aP (aD r13 18) fun r23=>
     some r23
    else
     some r13) fun(o22:ai)=>
   some (r18.1,o22)
  else
   some (r11.1,r13)) fun((Cn,o17):(List UInt8)×ai)=>
 aP (fI v_1 (aH.mk [76,101,110,103,116,104])) fun r24=>
 aP (fI r24 (aH.mk [70,105,108,116,101,114])) fun r25=>
 aP (ie r25 (aH.mk Cn)) fun r26=>
 some (r26,o17)
def kH:IC:=dec 0x3ae4ba1de5398bb965c242c1b95494c931406efcb0d81a62cab88454b00a88234f12311e9f5eb17502d0e27e33c1ef21c4195aa51ec10cc5a9db9f98eb980cc1a798d83f35bdaba2314149fdb809bb2a086c40f59b9f51bfb75fee3304b7afa427a10ce37bbfdf2c05641297c5cb480f8bbfa40646738f58f49706d3b6289e125a1161fed7b1437a5e977f75bfbae00942c537c4199017fd33af57db4fd24ea3c0c95778614292f22ded9f6164b532fc0191a48d3dd3585522f6a92e1ad142a39ac21d21418f6cbb842b28f253fec90e5a25f8dcb7ff02e8378159fd659779ba6afcd5dcced415aaef984770d737840e971e513088cb780f313b26679d3e3be14703f988aea42dff3be45e3662221db312be25a1e5798402d2c697c1534e197e42dec487e1b799d035f5256781c019b65aef9b96ff7ad63985e235b27c95ef6b90b6f594da055365fb3c86f950bef4526b1e3c3987971816d879c058e4da75554333afe25bff27367bc0dff5908236fe47338b7ae0d3d013724c399feb
theorem rj:aS prog 18 86 [⟨4,false,some (6,true)⟩] kH=true:=by kernel_rfl
theorem q8{r_0 v_1}{B0:Nat}{s:ae}{Q:List AV->ae->Prop}(hB0:s B0=some (.cells [sF 1 r_0.af.b_,.int .i64 r_0.af.at_,.bool r_0.af.az,.int .i64 r_0.e_])):ok (bt r_0 v_1) (fun r=>Q [.agg [.int .i64 r.1.V.Kind,.int .i64 r.1.V.N,.str r.1.V.S.b,sF 4 r.1.V.L,.bool r.1.Stream,.str r.1.Data.b]] (s.set B0 (.cells [sF 1 r.2.af.b_,.int .i64 r.2.af.at_,.bool r.2.af.az,.int .i64 r.2.e_])))->FN prog 18 [.ref B0 0,oV v_1] s Q:=by
 have hS:s=(s.set B0 (.cells [sF 1 r_0.af.b_,.int .i64 r_0.af.at_,.bool r_0.af.az,.int .i64 r_0.e_])):=by simp only[aY hB0]
 rw[hS]
 intro h
 refine FO rj rfl rfl ?_
 revert h
 rw[kH,bt]
 conv in dec _=>reduce
 repeat'(first
  |(with_reducible first|exact cU|refine bP ?_ ?_|refine cX ?_|refine aF (fun _(h:fS v_1 (aH.mk [76,101,110,103,116,104])=some _)=>rJ h) (fun r1=>?_)|refine aF (fun _(h:ij v_1=some _)=>Bh h) (fun r2=>?_)|refine dn rfl (fun _(h:eH v_1 (aH.mk [68,101,99,111,100,101,80,97,114,109,115])=some _)=>na h) (fun _=>rfl) (fun r8=>?_)|refine fun hh=>c4 (B0:=B0) (by simp -implicitDefEqProofs only[go_sem,seval]<;>simp only[ao]) (aO (show ok (aD r_0 18) _ from hh) fun r9=>?_)|refine fun hh=>sS (B0:=B0) (by simp -implicitDefEqProofs only[go_sem,seval]<;>simp only[ao]) (aO (show ok (bI o7) _ from hh) fun r10=>?_)|refine fun hh=>sd (B0:=B0) (by simp -implicitDefEqProofs only[go_sem,seval]<;>simp only[ao]) (aO (show ok (aU r10 r1.1.N) _ from hh) fun r11=>?_)|refine fun hh=>iU (B0:=B0) (by simp -implicitDefEqProofs only[go_sem,seval]<;>simp only[ao]) (aO (show ok (aG r11.2 (aH.mk [101,110,100,115,116,114,101,97,109])) _ from hh) fun r12=>?_)|refine fun hh=>iU (B0:=B0) (by simp -implicitDefEqProofs only[go_sem,seval]<;>simp only[ao]) (aO (show ok (aG r12 (aH.mk [101,110,100,111,98,106])) _ from hh) fun r13=>?_)|refine aF (fun _(h:jc r11.1 16777216=some _)=>EB h) (fun r18=>?_)|refine fun hh=>c4 (B0:=B0) (by simp -implicitDefEqProofs only[go_sem,seval]<;>simp only[ao]) (aO (show ok (aD r13 18) _ from hh) fun r23=>?_)|refine cK (fun _(h:fI v_1 (aH.mk [76,101,110,103,116,104])=some _)=>wO h) (fun _=>rfl) (fun r24=>?_)|refine cK (fun _(h:fI r24 (aH.mk [70,105,108,116,101,114])=some _)=>wO h) (fun _=>rfl) (fun r25=>?_)|refine cK (fun _(h:ie r25 (aH.mk Cn)=some _)=>rO h) (fun _=>rfl) (fun r26=>?_))
  |((with_reducible refine dm (live:=[(0,false),(3,false),(4,false),(5,false),(7,false)]) (fun(o7:ai)=>⟨[(0,.ref B0 0),(3,.loc [.int .i64 v_1.Kind,.int .i64 v_1.N,.str v_1.S.b,sF 4 v_1.L]),(4,.loc [.int .i64 0,.int .i64 0,.str (aH.mk []).b,.sl true 4 0 [],.bool false,.str (aH.mk []).b]),(5,.loc [.int .i64 r1.1.Kind,.int .i64 r1.1.N,.str r1.1.S.b,sF 4 r1.1.L]),(7,.bool r2.1)],[],(s.set B0 (.cells [sF 1 o7.af.b_,.int .i64 o7.af.at_,.bool o7.af.az,.int .i64 o7.e_]))⟩) (fun J=>?_) ?_);rotate_left;rintro o7)
  |((with_reducible refine dm (live:=[(3,false),(4,false),(10,true)]) (fun(o22:ai)=>⟨[(3,.loc [.int .i64 v_1.Kind,.int .i64 v_1.N,.str v_1.S.b,sF 4 v_1.L]),(4,.loc [.int .i64 0,.int .i64 0,.str (aH.mk []).b,.sl true 4 0 [],.bool false,.str (aH.mk []).b]),(10,sF 1 r18.1)],[],(s.set B0 (.cells [sF 1 o22.af.b_,.int .i64 o22.af.at_,.bool o22.af.az,.int .i64 o22.e_]))⟩) (fun J=>?_) ?_);rotate_left;rintro o22)
  |((with_reducible refine dm (live:=[(3,false),(4,false),(9,true)]) (fun((Cn,o17):(List UInt8)×ai)=>⟨[(3,.loc [.int .i64 v_1.Kind,.int .i64 v_1.N,.str v_1.S.b,sF 4 v_1.L]),(4,.loc [.int .i64 0,.int .i64 0,.str (aH.mk []).b,.sl true 4 0 [],.bool false,.str (aH.mk []).b]),(9,sF 1 Cn)],[],(s.set B0 (.cells [sF 1 o17.af.b_,.int .i64 o17.af.at_,.bool o17.af.az,.int .i64 o17.e_]))⟩) (fun J=>?_) ?_);rotate_left;rintro⟨Cn,o17⟩)
  |simp -implicitDefEqProofs only[go_sem,seval])
def cJ(b_0:(List UInt8))(bq:Int)(aM:Bool):Option (Int×a8×Int×Int):=
 aP (bU (ai.mk (b8.mk b_0 bq aM) 0) 1 4096) fun r1=>
 aP (bU r1.2 0 0) fun r2=>
 aP (aG r2.2 (aH.mk [111,98,106])) fun r3=>
 aP (bR r3) fun r4=>
 aP (ib r4.1) fun r5=>
 jn (
  aP (a9 r4.2) fun r10=>
  if r10.1 then
   aP (bt r10.2 r5.V) fun r11=>
   some (r11.1,r11.2)
  else
   some (r5,r10.2)) fun((o8,o9):a8×ai)=>
 if o9.e_ !=0 then
  some (0,(a8.mk (aa.mk 0 0 (aH.mk []) ([]:List aa)) false (aH.mk [])),0,o9.e_)
 else
  some (r1.1,o8,o9.af.at_,0)
def tf:IC:=dec 0x13696e8817f01dd43421df8758bae7a77b759a7bb860dadaf2fc30ce93b4da3d7608dab0982033dcd470ee8db98caf893582ef71bdc5680cdcdf4e0f8d23fbe4a545eea50da578c07bb86a5d5b9aab1a344cb26db89a837863c30b05289c39bc40362aa94e3b05000a3432b99c22983eb0d398e620b2c5977597fe5fd3b0ff436bcd54796778a4234895b95d39e36c925cd9000969bbec1fca0861fff9f85cd7a8b9f8f56940c21b8a67b176bace7b42ad476e7c58da660542cd0ec46dceda27924f49c0f08774a3602bd03aeb21f239dc71aeba9bfb31c75d917840222c02e7c5bd7069e809b6f400c1ad
theorem Dc:aS prog 6 51 [⟨6,true,none⟩,⟨7,false,some (6,true)⟩,⟨8,true,none⟩,⟨9,true,none⟩] tf=true:=by kernel_rfl
theorem CR{b_0 bq aM}{s:ae}{Q:List AV->ae->Prop}:ok (cJ b_0 bq aM) (fun r=>Q [.int .i64 r.1,.agg [.int .i64 r.2.1.V.Kind,.int .i64 r.2.1.V.N,.str r.2.1.V.S.b,sF 4 r.2.1.V.L,.bool r.2.1.Stream,.str r.2.1.Data.b],.int .i64 r.2.2.1,.int .i64 r.2.2.2] s)->FN prog 6 [sF 1 b_0,.int .i64 bq,.bool aM] s Q:=by
 intro h
 refine FN.forget ?_
 refine FO Dc rfl rfl ?_
 revert h
 rw[tf,cJ]
 conv in dec _=>reduce
 repeat'(first
  |(with_reducible first|exact cU|refine bP ?_ ?_|refine cX ?_|refine fun hh=>kC (B0:=N1) (by simp -implicitDefEqProofs only[go_sem,seval]<;>simp only[ao]) (aO (show ok (bU (ai.mk (b8.mk b_0 bq aM) 0) 1 4096) _ from hh) fun r1=>?_)|refine fun hh=>kC (B0:=N1) (by simp -implicitDefEqProofs only[go_sem,seval]<;>simp only[ao]) (aO (show ok (bU r1.2 0 0) _ from hh) fun r2=>?_)|refine fun hh=>iU (B0:=N1) (by simp -implicitDefEqProofs only[go_sem,seval]<;>simp only[ao]) (aO (show ok (aG r2.2 (aH.mk [111,98,106])) _ from hh) fun r3=>?_)|refine fun hh=>se (B0:=N1) (by simp -implicitDefEqProofs only[go_sem,seval]<;>simp only[ao]) (aO (show ok (bR r3) _ from hh) fun r4=>?_)|refine aF (fun _(h:ib r4.1=some _)=>rN h) (fun r5=>?_)|refine fun hh=>pS (B0:=N1) (by simp -implicitDefEqProofs only[go_sem,seval]<;>simp only[ao]) (aO (show ok (a9 r4.2) _ from hh) fun r10=>?_)|refine fun hh=>q8 (B0:=N1) (by simp -implicitDefEqProofs only[go_sem,seval]<;>simp only[ao]) (aO (show ok (bt r10.2 r5.V) _ from hh) fun r11=>?_))
  |((with_reducible refine dm (fun((o8,o9):a8×ai)=>⟨[(7,.loc [.int .i64 0,.int .i64 0,.str (aH.mk []).b,.sl true 4 0 [],.bool false,.str (aH.mk []).b]),(10,.ref N1 0),(11,.int .i64 r1.1),(12,.loc [.int .i64 o8.V.Kind,.int .i64 o8.V.N,.str o8.V.S.b,sF 4 o8.V.L,.bool o8.Stream,.str o8.Data.b])],[],(s.set N1 (.cells [sF 1 o9.af.b_,.int .i64 o9.af.at_,.bool o9.af.az,.int .i64 o9.e_]))⟩) (fun J=>?_) ?_);rotate_left;rintro⟨o8,o9⟩)
  |((fail_if_success (have _x:=sN1));with_reducible intro hh N1 hN1;(try simp only[iD]at hN1);have sN1:=hN1;revert hh)
  |with_reducible exact fun hh=>⟨_,lx.set (lx.refl _) (by simp[ae.set,sN1]),hh⟩
  |simp -implicitDefEqProofs only[go_sem,seval])
theorem kB{b_0 bq aM}{s:ae}{r:Int×a8×Int×Int}(h:cJ b_0 bq aM=some r):FE prog 6 [sF 1 b_0,.int .i64 bq,.bool aM] s [.int .i64 r.1,.agg [.int .i64 r.2.1.V.Kind,.int .i64 r.2.1.V.N,.str r.2.1.V.S.b,sF 4 r.2.1.V.L,.bool r.2.1.Stream,.str r.2.1.Data.b],.int .i64 r.2.2.1,.int .i64 r.2.2.2] s:=CR ⟨r,h,rfl,rfl⟩
end Go.AB
end
