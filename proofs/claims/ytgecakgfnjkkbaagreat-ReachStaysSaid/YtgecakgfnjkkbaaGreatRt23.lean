/- A part. -/
import Derived.Test.YtgecakgfnjkkbaaGreatRt11
import Derived.Test.YtgecakgfnjkkbaaGreatRt21
set_option linter.defProp false
set_option linter.unusedSimpArgs false
set_option linter.unusedVariables false
section
set_option maxRecDepth 16000
namespace Go.AB
open Go
open Go.Proofs.Tryz (prog)
attribute[-go_sem] Nat.add_zero mi cy bX cP bD bV
def wY:IC:=dec 0x51000d1407f3
def wZ:IC:=dec 0x3627b8a78aa
def w9:IC:=dec 0x158ec205d94692d8d3
def pk:IC:=dec 0x2fcf6b6fa3523714fcb3313da074ba291a6af5be91c4d8cb10123dc41539308f6582208bf0d3106def54c4e5a84534da99807b34ffffe539d956c523f973896713814de3c511cb87b15a50e514483c6ae44fd717dfbed21a28fbdc0eec5ed43e57f240e1f9db401059696e1c1b6497719bac657e711131b0bd4016bf6634c9b1d4a4ea47413b40b
def xa:IC:=dec 0x10dee0eaf9c2c93ea0b2fa438d40ef6721b4ca754d7ee
def iG:List jr:=[⟨2,false,none⟩,⟨3,true,none⟩]
abbrev rH(l:List aa):AV:=.sl false 4 l.length (flat l)
def Kr{s:ae}{l:List aa}{Q:List AV->ae->Prop}(hq:∀Bs,s Bs=none->∀Bn,(s.set Bs (.cells [rH l])) Bn=none->Q [.fn 276 [] [.ref Bs 0,.ref Bn 0]] ((s.set Bs (.cells [rH l])).set Bn (.cells [.int .i64 2]))):FN prog 248 [rH l,.int .i64 2] s Q:=by
 refine FS 9 [⟨4,true,none⟩] 0x1df974198ae119aab603b299f918198a9a2ba880658cc2443cdd4e28a0961dc ?_
 have h0:decide ((2:Int)<1)=false:=rfl
 refine Xe4 ?_
 intro Bs h1 Bn h2
 refine Xe5 h0 ?_
 exact hq Bs h1 Bn h2
def cA:Code->Code
 |.seq a _=>a
 |c=>c
def cB:Code->Code
 |.seq _ b=>b
 |c=>c
def rfA:Code->Code
 |.rangeFunc _ _ a _=>a
 |c=>c
def rfB:Code->Code
 |.rangeFunc _ _ _ b=>b
 |c=>c
def cIn:Code->Code
 |.block _ c=>c
 |c=>c
def adI:Code->Array Oper
 |.region _ ops _=>ops
 |_=> #[]
def Uh:IC->List ar
 |.block _ (.EX _ l _)=>l
 |_=>[]
noncomputable def DJ:Code:=(Go.Proofs.Tryz.f218.body).getD .skip
noncomputable def pC1:Code:=cA DJ
noncomputable def pC2:Code:=cA (cB DJ)
noncomputable def pC3:Code:=cA (cA (cB (cB DJ)))
noncomputable def pRf:Code:=cIn (cB (cA (cB (cB DJ))))
noncomputable def pC4:Code:=cB (cB (cB DJ))
noncomputable def Yy:Array Oper:=adI (cIn (rfB pRf))
def DK:Go.Proofs.Tryz.f218.body=some (.seq pC1 (.seq pC2 (.seq (.seq pC3 (.block 0 (.rangeFunc (.tmp 8) #[9] (rfA pRf) (rfB pRf)))) pC4))):=By
theorem SD:rfB pRf=.block 1 (.region 4 Yy false):=By
theorem ZQ:rfA pRf=.region 3 #[{dst:=some 5,op:=.assign (.tmp 9),type:=30,pos:= "parse.go:116",after:= #[],guard:=none}] false:=By
def DL:lZ prog 40 pC1 wY=true:=By
def DM:lZ prog 40 pC2 wZ=true:=By
def DN:lZ prog 40 pC3 w9=true:=By
def DP:lZ prog 40 pC4 pk=true:=By
def Oc:cI prog 40 Yy Yy.toList (Uh xa)=true:=By
def LY:Yy.toList.all yJ=true:=By
def Hu:ln prog Go.Proofs.Tryz.f218.results.toList iG=true:=By
theorem LZ:Go.Proofs.Tryz.f218.ntmps=40:=By
def jC(l:List aa)(k:Nat):List aa:=(l.drop (2*k)).take 2
def dQ(l:List aa)(k:Nat):List VL:=(List.range k).map (jC l)
theorem nX(l:List aa)(k:Nat):dQ l (k+1)=dQ l k++[jC l k]:=by unfold dQ;rw[List.range_succ,List.map_append];rfl
def AK(l:List aa)(k:Nat):(dQ l k).length=k:=by simp[dQ]
theorem oU(l:List aa)(k:Nat)(h:2*k+2<=l.length):(jC l k).length=2:=by unfold jC;rw[List.length_take,List.length_drop];omega
def SS{w:World}{R:Nat->Nat}{l:List aa}{b off k:Nat}(hR:off+(flat l).length<=R b)(ha:At w R b off (flat l))(hk:2*k+2<=l.length):VR w R (rH (jC l k)) (fH b off k):=by
 obtain⟨u,h1,h2,h3⟩:=ha
 have hs:=lH l 4 (2*k) 2 rfl
 have hl:(flat (jC l k)).length=2*4:=by rw[au,oU l k hk];rfl
 have hfl:(flat l).length=l.length*4:=au l
 have hg:∀(j:Nat)(c:AV),(flat (jC l k))[j]? =some c->(flat l)[2*k*4+j]? =some c:=fun j c hj=>by
  unfold jC at hj
  rw[<-hs,Cm]at hj
  split at hj
  ·exact hj
  ·cases hj
 unfold rH fH
 rw[oU l k hk]
 refine .sl false 4 2 _ b _ 2 (fun j=>u (2*k*4+j)) (fun c hc=>?_) hl AT (Nat.le_refl _) (fun j c hj=>?_) (fun j c hj=>h2 _ c (hg j c hj))
 ·obtain⟨j,hj⟩:=List.mem_iff_getElem?.1 hc
  exact h3 c (List.mem_of_getElem? (hg j c hj))
 ·rw[Nat.add_assoc];exact h1 _ c (hg j c hj)
def nbB(ls:List VL)(i:Int):Option (Int⊕Bool):=
 bif decide (i<ls.length)then a8 (1<=i/\i<2^62/\0<(ix ls i).length/\0<(ix ls (i -1)).length)<|
  bif(ix (ix ls i) 0).S.b==(ix (ix ls (i -1)) 0).S.b then some (.inr true)else some (.inl (i+1))
 else some (.inr false)
def VK{s:ae}{r:c5}{ls:List VL}{B:Nat}{o o':SO}(h:fZ s r ls)(hB:s B=some o):(jc s r ls).set B o'=jc (s.set B o') r ls/\fZ (s.set B o') r ls:=by
 cases r with
 |none=>exact⟨rfl,h⟩
 |some x=>
  obtain⟨rb,cap,sp⟩:=x
  obtain⟨h1,h2⟩:=h
  have hne:B≠rb:=fun e=>by subst e;rw[h1]at hB;cases hB
  refine⟨set_comm hne,⟨Xd4,h2⟩⟩
def HW(s:ae)(B2:Nat)(l:List aa)(k:Nat)(s':ae):Prop:=∃s1 r,s1 B2=some (.cells [jj r k])/\Sub s s1/\fZ s1 r (dQ l k)/\s'=jc s1 r (dQ l k)
def XY{n i j:Nat}{x y:AV}{G:Gh}{W:World}{s:ae}{t:Array Value}(hij:i≠j)(hi:i<n)(hj:j<n)(hg:cq G W)(hs:ba G W s)(ht:t.size=n)(hx:view x=x/\dF x=true)(hy:view y=y/\dF y=true)
 (h1:∀v,t[i]? =some v->VR W G.R x v)(h2:∀v,t[j]? =some v->VR W G.R y v):Inv G n [] ⟨[(i,x),(j,y)],[],s⟩ {tmps:=t,defers:=[]} W:=by
 have lk:∀k,look [(i,x),(j,y)] k=if i=k then x else if j=k then y else .undef:=fun k=>by rw[bj,bj];rfl
 refine⟨hg,hs,ht,fun k v hk=>?_,fun k hk=>?_,fun k d hd=>?_,rfl⟩
 ·show dZ G W _ t k (look [(i,x),(j,y)] k) v
  rw[lk]
  by_cases e1:i=k
  ·subst e1;rw[if_pos rfl,<-hx.1];exact dZ.yH hx.2 (h1 v hk)
  ·rw[if_neg e1]
   by_cases e2:j=k
   ·subst e2;rw[if_pos rfl,<-hy.1];exact dZ.yH hy.2 (h2 v hk)
   ·rw[if_neg e2];exact⟨.undef _,trivial⟩
 ·show look [(i,x),(j,y)] k=.undef
  rw[lk,if_neg AT,if_neg AT]
 ·have hd:bO (look [(i,x),(j,y)] k) d:=hd
  rw[lk]at hd
  split at hd
  ·exact(fp hx.2 d hd).elim
  ·split at hd
   ·exact(fp hy.2 d hd).elim
   ·exact hd.elim
end Go.AB
end
section
namespace Go.AB
open Go
theorem vR:∀x y:List UInt8,Op.bytesLess x y=false->Op.bytesLess y x=false->x=y
 |[],[],_,_=>rfl
 |[],_::_,h,_=>by cases h
 |_::_,[],_,h=>by cases h
 |a::x,b::y,h1,h2=>by
  rw[oR]at h1 h2
  simp only[Bool.or_eq_false_iff,decide_eq_false_iff_not,Bool.and_eq_false_iff,beq_eq_false_iff_ne,UInt8.lt_iff_toNat_lt]at h1 h2
  have hab:a=b:=UInt8.toNat_inj.1 AT
  subst hab
  rw[vR x y (h1.2.resolve_left fun h=>h rfl) (h2.2.resolve_left fun h=>h rfl)]
def acO{x y:VL}(h1:Dy y x=false)(h2:((ix y 0).S.b==(ix x 0).S.b)=false):Dy x y=true:=by
 cases h:Dy x y with
 |true=>rfl
 |false=>
  have:=vR _ _ h1 h
  rw[this,beq_self_eq_true]at h2
  cases h2
def acN{x y z:VL}(h1:Dy x y=true)(h2:Dy z y=false):Dy x z=true:=by
 cases h:Dy x z with
 |true=>rfl
 |false=>rw[<-h1];exact(I7.tr _ _ _ h2 h).symm▸rfl
def qk:List VL->Bool
 |x::y::t=>((ix y 0).S.b==(ix x 0).S.b)||qk (y::t)
 |_=>false
theorem Qp(x y:VL)(t:List VL):qk (x::y::t)=(((ix y 0).S.b==(ix x 0).S.b)||qk (y::t)):=rfl
def strict:∀{Z:List VL},jS Dy Z->qk Z=false->Z.Pairwise fun x y=>Dy x y=true
 |[],_,_=>List.Pairwise.nil
 |[x],_,_=>List.pairwise_singleton _ _
 |x::y::t,h,ha=>by
  unfold qk at ha
  rw[Bool.or_eq_false_iff]at ha
  obtain⟨h1,h2⟩:=List.pairwise_cons.1 h
  have ih:=strict h2 ha.2
  have hxy:=acO (h1 y BY) ha.1
  refine List.pairwise_cons.2 ⟨fun z hz=>?_,ih⟩
  rcases List.mem_cons.1 hz with rfl|hz
  ·exact hxy
  ·exact acN hxy ((List.pairwise_cons.1 h2).1 z hz)
def abm{Z W:List VL}(p:Z.Perm W)(h1:jS Dy Z)(h2:jS Dy W)(ha:qk Z=false):Z=W:=by
 have hs:=strict h1 ha
 refine List.Perm.eq_of_pairwise (le:=fun x y=>Dy y x=false) (fun a b ha hb e1 e2=>?_) h1 h2 p
 have hb:=p.mem_iff.2 hb
 have key:∀{L:List VL},L.Pairwise (fun x y=>Dy x y=true)->a∈L->b∈L->a=b:=by
  intro L
  induction L with
  |nil=>intro _ h;cases h
  |cons c L ih=>
   intro hL ha hb
   obtain⟨k1,k2⟩:=List.pairwise_cons.1 hL
   rcases List.mem_cons.1 ha with ea|ha2<;>rcases List.mem_cons.1 hb with eb|hb2
   ·rw[ea,eb]
   ·rw[<-ea]at k1;rw[k1 b hb2]at e2;cases e2
   ·rw[<-eb]at k1;rw[k1 a ha2]at e1;cases e1
   ·exact ih k2 ha2 hb2
 exact key hs ha hb
def acT(Z:List VL)(jW:∀c∈Z,0<c.length)(hl:Z.length<2^60):iter (nbB Z) 1=some (qk Z):=by
 obtain⟨o,h1,rfl⟩:=eh (body:=nbB Z) (s0:=1) (fun q=>∃i:Nat,q=(i:Int)+1/\qk (Z.drop i)=qk Z/\i<=Z.length) (fun q=>((Z.length:Int)+1 -q).toNat) (fun o=>o=qk Z)
  ⟨0,rfl,by rw[List.drop_zero],Nat.zero_le _⟩ AT (by
    rintro q ⟨i,rfl,ha,hi⟩
    unfold nbB
    by_cases h:i+1<Z.length
    ·have e1:Z.drop i=Z[i]::Z[i+1]::Z.drop (i+2):=by rw[List.drop_eq_getElem_cons AT,List.drop_eq_getElem_cons (i:=i+1) h]
     have e2:Z.drop (i+1)=Z[i+1]::Z.drop (i+2):=List.drop_eq_getElem_cons h
     have i1:ix Z ((i:Int)+1)=Z[i+1]:=by have:=gh (l:=Z) h;rw[<-this];congr 1
     have i2:ix Z ((i:Int)+1 -1)=Z[i]:=by rw[show(i:Int)+1 -1=(i:Int) by omega];exact gh AT
     rw[e1,Qp]at ha
     rw[show decide ((i:Int)+1<Z.length)=true by simp;omega,cond_true,i1,i2,bI ⟨AT,AT,jW _ (List.getElem_mem _),jW _ (List.getElem_mem _)⟩]
     cases he:((ix Z[i+1] 0).S.b==(ix Z[i] 0).S.b)with
     |true=>exact⟨.inr true,rfl,by rw[<-ha,he];rfl⟩
     |false=>
      rw[he,Bool.false_or]at ha
      refine⟨.inl ((i:Int)+1+1),rfl,⟨i+1,AT,by rw[e2];exact ha,AT⟩,AT⟩
    ·rw[show decide ((i:Int)+1<Z.length)=false by simp;omega,cond_false]
     refine⟨.inr false,rfl,?_⟩
     rw[<-ha]
     rcases hd:Z.drop i with _|⟨x,t⟩
     ·rfl
     ·have:=congrArg List.length hd
      rw[List.length_drop,List.length_cons]at this
      obtain rfl:t=[]:=List.eq_nil_of_length_eq_zero AT
      rfl)
 exact h1
def Q3(x:VL):List VL->List VL
 |[]=>[x]
 |y::t=>if Dy x y then x::y::t else y::Q3 x t
def zQ(x:VL):∀l,(Q3 x l).Perm (x::l)
 |[]=>List.Perm.refl _
 |y::t=>by
  unfold Q3
  split
  ·exact List.Perm.refl _
  ·exact((zQ x t).cons y).trans (List.Perm.swap x y t)
def La(x:VL):∀{l},jS Dy l->jS Dy (Q3 x l)
 |[],_=>jS.one x
 |y::t,h=>by
  obtain⟨h1,h2⟩:=List.pairwise_cons.1 h
  unfold Q3
  split
  ·rename_i hxy
   refine List.pairwise_cons.2 ⟨fun z hz=>?_,h⟩
   have h3:=I7.WN _ _ hxy
   rcases List.mem_cons.1 hz with rfl|hz
   ·exact h3
   ·exact I7.tr _ _ _ h3 (h1 z hz)
  ·rename_i hxy
   refine List.pairwise_cons.2 ⟨fun z hz=>?_,La x h2⟩
   rcases List.mem_cons.1 ((zQ x t).mem_iff.1 hz)with rfl|hz
   ·simpa using hxy
   ·exact h1 z hz
def xB(l:List VL):List VL:=l.foldr Q3 []
def Ax:∀l,(xB l).Perm l
 |[]=>List.Perm.refl _
 |x::l=>(zQ x _).trans ((Ax l).cons x)
def Ex:∀l,jS Dy (xB l)
 |[]=>List.Pairwise.nil
 |x::l=>La x (Ex l)
def mB(l:List aa):Option (List aa×Int):=
 a8 ((l.length:Int)<2^30/\l.length % 2=0)<|
 bif qk (xB (dQ l (l.length/2)))then some ([],16)else some ((xB (dQ l (l.length/2))).flatten,0)
def Rs{Z C:List VL}(p:Z.Perm C)(h:jS Dy Z):qk Z=qk (xB C)/\(qk Z=false->Z=xB C):=by
 have p2:Z.Perm (xB C):=p.trans (Ax C).symm
 have k:qk Z=false->Z=xB C:=abm p2 h (Ex C)
 refine⟨?_,k⟩
 cases h1:qk Z with
 |false=>rw[<-k h1,h1]
 |true=>
  cases h2:qk (xB C)with
  |true=>rfl
  |false=>
   have:=abm p2.symm (Ex C) h h2
   rw[this,h1]at h2;cases h2
end Go.AB
end
section
set_option maxRecDepth 4000
namespace Go.AB
open Go
open Go.Proofs.Tryz (prog)
attribute[-go_sem] Nat.add_zero mi cy bX cP bD bV
def UZ{α:Type}{c:Prop}[Decidable c]{o:Option α}{r:α}(h:a8 c o=some r):c/\o=some r:=by
 by_cases hc:c
 ·rw[bI hc]at h;exact⟨hc,h⟩
 ·unfold a8 at h
  rw[if_neg hc]at h;cases h
def L2{s s1:ae}{B2 rb cap:Nat}{sp:List AV}{ls:List VL}{Q:List AV->ae->Prop}(hB:s1 B2=some (.cells [.arr rb 0 ls.length cap]))(hrb:s1 rb=none)(hs:Sub s s1)(hl:(ls.length:Int)<2^40)(hz:∀c∈ls,0<c.length)(hfl:ls.flatten.length*56<=room)
 (q1:qk (xB ls)=true->∀s',Sub s s'->Q [.sl false 4 0 [],.int .i64 16] s')(q0:qk (xB ls)=false->∀s',Sub s s'->Q [.sl false 4 (xB ls).flatten.length (flat (xB ls).flatten),.int .i64 0] s'):
 fY prog pk (xu iG Q) ⟨[(4,.ref B2 0)],[],s1.set rb (.cells (flat ls++sp))⟩:=by
 have cg:room=140737488355328:=rfl
 have hne:B2≠rb:=fun e=>by subst e;rw[hrb]at hB;cases hB
 have hB':∀cs,(s1.set rb (.cells cs)) B2=some (.cells [.arr rb 0 ls.length cap]):=fun cs=>by rw[af hne];exact hB
 rw[pk,iG]
 refine Xf9 ?_
 refine Xg2 hB' ?_
 refine VV AT hz fun two p1 s1'=>?_
 have hlen:=p1.length_eq
 have jW:∀c∈two,0<c.length:=fun c hc=>hz c (p1.mem_iff.1 hc)
 obtain⟨ka,kb⟩:=Rs p1 s1'
 have amz:two.flatten.length=ls.flatten.length:=p1.flatten.length_eq
 have hn:ok (iter (nbB two) 1) fun d=>(d=true->∀s',Sub s s'->Q [.sl false 4 0 [],.int .i64 16] s')/\(d=false->∀s',Sub s s'->Q [.sl false 4 two.flatten.length (flat two.flatten),.int .i64 0] s'):=⟨_,acT two jW AT,fun e=>q1 (ka▸e),fun e=>by rw[kb e];exact q0 (ka▸e)⟩
 rw[<-hlen]
 rw[<-hlen]at hB' hl
 refine Xe4 ?_
 refine cY (fun(i:Int)=>(⟨[(4,.ref B2 0),(6,.int .i64 i)],[],s1.set rb (.cells (flat two++sp))⟩:St)) rfl ?_ hn
 ·intro J i hb
  unfold nbB at hb
  cases hlt:decide (i<two.length)with
  |false=>
   rw[hlt,cond_false,bB]at hb
   refine Xf1 hB' hlt ?_
   simp only[xV]at hb
   refine QI hrb jW AT AT fun s' r' hs' hr'=>?_
   refine Xe4 ?_
   refine IG rfl hr' rfl ?_
   refine Xe4 ?_
   exact hb.2 trivial s' fun b o h=>hs' b o ((hs.set hrb) b o h)
  |true=>
   rw[hlt,cond_true,fu]at hb
   obtain⟨⟨h1,h2,h3,h4⟩,hb⟩:=hb
   have hi:i<two.length:=g_
   obtain⟨r1,r2⟩:=RE two sp (j:=i) AT hi
   obtain⟨r3,r4⟩:=RE two sp (j:=i -1) AT AT
   have w1:aC (i -1)=i -1:=ao AT AT
   have w2:aC (i+1)=i+1:=ao AT AT
   generalize hcs:flat two++sp=cs at*
   have d1:=decide_eq_true r1
   have d3:=decide_eq_true r3
   refine Xh5 hB' hlt w1 w2 r2 r4 d1 d3 ?_
   refine⟨⟨AT,hi⟩,⟨Int.le_refl _,AT⟩,⟨AT,AT⟩,⟨Int.le_refl _,AT⟩,fun he=>?_,fun he=>?_⟩
   ·rw[he,cond_true,bB]at hb
    simp only[xV]at hb
    exact hb.1 trivial _ (hs.set hrb)
   ·rw[he,cond_false,bB]at hb
    exact hb
def Ob{s:ae}{B2:Nat}{l:List aa}{k:Nat}{s':ae}(hs0:s B2=none)(hk:k<2^36)(hch:(jC l k).length=2)(h:HW s B2 l k s'):
 swp prog (Uh xa) ⟨[(4,.ref B2 0),(5,rH (jC l k))],[],s'⟩ fun E'=>HW s B2 l (k+1) E'.s:=by
 have cg:room=140737488355328:=rfl
 obtain⟨s1,r,h1,h2,h3,rfl⟩:=h
 have hB:jc s1 r (dQ l k) B2=some (.cells [jj r k]):=jO h3 h1
 have hkl:(dQ l k).length=k:=AK l k
 generalize ez:jc s1 r (dQ l k)=st at hB
 rw[xa]
 refine Xf9 ?_
 rw[Uh]
 unfold rH
 refine Xg2 hB ?_
 rw[gn]
 have fin:=xL (E:=?_) (d:=?_) (K:=?_) (by':=24) (s:=s1) (r:=r) (l:=dQ l k) (z:=([]:VL)) (v:=(jC l k:VL)) (sz:=1) ?_ h3 rfl (by rw[hkl];omega) ?_
 ·rw[hkl]at fin
  exact fin
 ·exact ez.symm
 ·intro s2 r' g1 g2
  have hB2:s2 B2=some (.cells [jj r k]):=g1 _ _ h1
  have hB3:jc s2 r' (dQ l k++[jC l k]) B2=some (.cells [jj r k]):=jO g2 hB2
  rw[hkl]
  generalize Ue:jc s2 r' (dQ l k++[jC l k])=st2 at hB3
  refine Xg2 hB3 ?_
  obtain⟨q1,q2⟩:=VK (o':=.cells [jj r' (k+1)]) g2 hB2
  refine⟨s2.set B2 (.cells [jj r' (k+1)]),r',cE ..,fun b o hb=>?_,?_,?_⟩
  ·have hne:b≠B2:=fun e=>by subst e;rw[hs0]at hb;cases hb
   rw[af hne]
   exact g1 _ _ (h2 _ _ hb)
  ·rw[nX];exact q2
  ·rw[nX,<-Ue];exact q1
def Rr{l:List aa}{r:List aa×Int}{s:ae}(hl0:0<l.length)(h:mB l=some r):FE prog 218 [rH l] s [.sl false 4 r.1.length (flat r.1),.int .i64 r.2] s:=by
 have cg:room=140737488355328:=rfl
 unfold mB at h
 obtain⟨⟨amB,hl2⟩,h⟩:=UZ h
 obtain⟨K,hK⟩:∃K,l.length=2*K:=⟨l.length/2,AT⟩
 have hK2:l.length/2=K:=AT
 rw[hK2]at h
 have jW:∀c∈dQ l K,0<c.length:=fun c hc=>by
  unfold dQ at hc
  obtain⟨k,hk,rfl⟩:=List.mem_map.1 hc
  rw[oU l k (by have:=List.mem_range.1 hk;omega)];decide
 have agu:∀k,2*k<=l.length->(dQ l k).flatten.length=2*k:=fun k=>by
  induction k with
  |zero=>intro _;rfl
  |succ k ih=>
   intro hk
   rw[nX,List.flatten_append,List.length_append,ih AT]
   simp[oU l k AT]
   omega
 have TO:(dQ l K).length=K:=AK l K
 refine FN.j8 ?_
 intro G w vs hg ho hs ha
 have hI:=ry (n:=40) hg hs ha D_ (show 1<=40 by decide)
 refine callsIn_wide.1 (callsIn_of_wp_marks (n:=3) Go.Proofs.Tryz.func218 DK trivial ?_ rfl)
 rw[LZ]
 have mixed:=mix
 refine piece (kJ mix) DL hI (aI.refl G w) (fun E'=>E'=⟨[(0,rH l)],[],s⟩) ?_ ?_
 ·rw[wY];(conv in dec _=>reduce);unfold rH
  exact Xf8
 rintro G1 σ1 a1 w1 hI1 hp1 rfl
 refine piece (kJ mix) DM hI1 hp1 (fun E'=>∃B2,s B2=none/\E'=⟨[(0,rH l),(4,.ref B2 0)],[],s.set B2 (.cells [.arr 0 0 0 0])⟩) ?_ ?_
 ·rw[wZ];(conv in dec _=>reduce);unfold rH
  refine Xe4 ?_
  intro B2 hB2
  exact⟨B2,hB2,rfl⟩
 rintro G2 σ2 a2 w2 hI2 hp2 ⟨B2,hB2,rfl⟩
 refine wpIn_seq (piece (kJ mix) DN hI2 hp2 (fun E'=>∃Bs,(s.set B2 (.cells [.arr 0 0 0 0])) Bs=none/\∃Bn,((s.set B2 (.cells [.arr 0 0 0 0])).set Bs (.cells [rH l])) Bn=none/\
  E'=⟨[(4,.ref B2 0),(8,.fn 276 [] [.ref Bs 0,.ref Bn 0])],[],((s.set B2 (.cells [.arr 0 0 0 0])).set Bs (.cells [rH l])).set Bn (.cells [.int .i64 2])⟩) ?_ ?_)
 ·rw[w9];(conv in dec _=>reduce);unfold rH
  refine Xe4 ?_
  refine Kr fun Bs h1 Bn h2=>?_
  refine Xe4 ?_
  exact⟨Bs,h1,Bn,h2,rfl⟩
 rintro G3 σ3 a3 w3 hI3 hp3 ⟨Bs,hBs,Bn,hBn,rfl⟩
 have n1:=hBs
 rw[di]at n1
 have n2:=hBn
 rw[di]at n2
 have n3:=n2.2
 rw[di]at n3
 have hsz:=hI3.size
 have e8:a3.tmps[8]? =some (a3.eval (.tmp 8)):=gw j_
 have e4:a3.tmps[4]? =some (a3.eval (.tmp 4)):=gw j_
 have v8:VR w3 G3.R (.fn 276 [] [.ref Bs 0,.ref Bn 0]) (a3.eval (.tmp 8)):=(hI3.cH 8 _ e8).1
 have v4:VR w3 G3.R (.ref B2 0) (a3.eval (.tmp 4)):=(hI3.cH 4 _ e4).1
 obtain⟨vf,vc,hv8,hvf,_,hvc,IL⟩:=VR.IT v8
 obtain rfl:vf= #[]:=Array.eq_empty_of_size_eq_zero hvf
 obtain rfl:vc= #[.pointer (some ⟨Bs,0,none⟩),.pointer (some ⟨Bn,0,none⟩)]:=by
  obtain⟨vl⟩:=vc
  match vl,hvc,IL with
  |[x,y],_,IL=>rw[VR.gG (IL 0 _ x rfl rfl),VR.gG (IL 1 _ y rfl rfl)]
 have hBx:(((s.set B2 (.cells [.arr 0 0 0 0])).set Bs (.cells [rH l])).set Bn (.cells [.int .i64 2])) Bs=some (.cells [rH l]):=by rw[af n2.1.symm,cE]
 have hBy:(((s.set B2 (.cells [.arr 0 0 0 0])).set Bs (.cells [rH l])).set Bn (.cells [.int .i64 2])) Bn=some (.cells [.int .i64 2]):=cE ..
 obtain⟨hOs,_,cs,ts,hhs,⟨ab8,ab9⟩,_⟩:=hI3.store Bs _ hBx
 obtain⟨hOn,_,cn,tn,hhn,⟨ab5,ab6⟩,_⟩:=hI3.store Bn _ hBy
 obtain⟨x,rfl⟩:∃x,cs= #[x]:=by
  obtain⟨cl⟩:=cs
  match cl,ab8 with
  |[x],_=>exact⟨x,rfl⟩
 obtain⟨y,rfl⟩:∃y,cn= #[y]:=by
  obtain⟨cl⟩:=cn
  match cl,ab5 with
  |[x],_=>exact⟨x,rfl⟩
 have hx:VR w3 G3.R (rH l) x:=(ab9 0 _ x rfl rfl).1
 have hy:y=.int .i64 2:=VR.b9 (ab6 0 _ y rfl rfl).1
 subst hy
 unfold rH at hx
 rcases VR.gR hx with⟨_,he,_⟩|⟨b,off,cap,rfl,hlen,hRb,fh,hat⟩
 ·exact absurd he AT
 refine wpIn_block ?_
 rw[ZQ,SD]
 let tA:Nat->Array Value:=fun k=>a3.tmps.setIfInBounds 9 (fH b off k)
 have TX:∀k,((#[9]:Array Tmp).zip #[fH b off k]).foldl (fun t(p,v)=>t.setIfInBounds p v) a3.tmps=tA k:=fun k=>by simp[tA]
 have hav:∀k,k<K->VR w3 G3.R (rH (jC l k)) (fH b off k):=fun k hk=>SS hRb hat AT
 refine aa9 hI3 hv8 (fun args w=>lT Go.Proofs.Tryz.func276 By By args) (K:=K) (lV:=fH b off) (avs:=fun k=>rH (jC l k)) (S:=HW s B2 l) [Bs,Bn] ?_ hav ?_ (fun k=>({tmps:=tA k,defers:=[]}:Act).put (some 5) (fH b off k)) ?_ ?_ ?_ ?_
 ·intro b' hb'
  simp only[List.mem_cons,List.not_mem_nil,or_false]at hb'
  rcases hb' with rfl|rfl
  ·exact nh.2 hOs
  ·exact nh.2 hOn
 ·refine⟨_,none,?_,fun b' o hb'=>?_,rfl,rfl⟩
  ·show(if B2∈[Bs,Bn]then none else(((s.set B2 (.cells [.arr 0 0 0 0])).set Bs (.cells [rH l])).set Bn (.cells [.int .i64 2])) B2)=_
   rw[if_neg (by simp only[List.mem_cons,List.not_mem_nil,or_false,not_or];exact⟨n1.1.symm,n3.1.symm⟩),af n3.1.symm,af n1.1.symm,cE]
   rfl
  ·have e1:b'≠B2:=fun e=>by subst e;rw[hB2]at hb';cases hb'
   have e2:b'≠Bs:=fun e=>by subst e;rw[n1.2]at hb';cases hb'
   have e3:b'≠Bn:=fun e=>by subst e;rw[n3.2]at hb';cases hb'
   show(if b'∈[Bs,Bn]then none else(((s.set B2 (.cells [.arr 0 0 0 0])).set Bs (.cells [rH l])).set Bn (.cells [.int .i64 2])) b')=_
   rw[if_neg (by simp only[List.mem_cons,List.not_mem_nil,or_false,not_or];exact⟨e2,e3⟩),af e3,af e2,af e1]
   exact hb'
 ·intro lo J W hbx hdr hY h0
  have c1:w3.cell? ⟨Bs,0,none⟩=some (.slice (some ⟨b,off,none⟩) (2*K) cap):=by rw[<-hK];simp[World.cell?,hhs]
  have c2:w3.cell? ⟨Bn,0,none⟩=some (.int .i64 2):=by simp[World.cell?,hhn]
  exact QD (lo:=lo) (Bs:=Bs) (Bn:=Bn) (b:=b) (off:=off) (K:=K) (cap:=cap) AT AT (fun k W h=>⟨(World.cell?_of_block (hbx k W h Bs BY)).trans c1,(World.cell?_of_block (hbx k W h Bn BY)).trans c2⟩) hdr hY h0
 ·intro lo k W K' hk
  rw[TX]
  have hev:({tmps:=tA k,defers:=[]}:Act).eval (.tmp 9)=fH b off k:=by
   show(a3.tmps.setIfInBounds 9 (fH b off k)).getD 9 undef=_
   rw[Array.getD_eq_getD_getElem?,Array.getElem?_setIfInBounds_self_of_lt j_]
   rfl
  refine wpIn_region_list (wpListIn_plain rfl fun K2 hK2=>⟨fun _ _=>trivial,?_⟩)
  rw[<-hev]at hk
  exact hK2 _ _ hk
 ·intro k hk lo G' W s' g1 g2 g3 hS hv R hR
  refine VJ Oc LY (XY (n:=40) (i:=4) (j:=5) (x:=.ref B2 0) (y:=rH (jC l k)) (t:=(tA k).setIfInBounds 5 (fH b off k)) B_ B_ B_ g1 g3 ?_ ⟨rfl,rfl⟩ ⟨rfl,rfl⟩ ?_ ?_) (Ob hB2 AT (oU l k AT) hS) hR
  ·show((a3.tmps.setIfInBounds 9 _).setIfInBounds 5 _).size=_
   rw[Array.size_setIfInBounds,Array.size_setIfInBounds,hsz]
  ·intro v hv4
   have hv4:((a3.tmps.setIfInBounds 9 (fH b off k)).setIfInBounds 5 (fH b off k))[4]? =some v:=hv4
   rw[Array.getElem?_setIfInBounds_ne B_,Array.getElem?_setIfInBounds_ne B_,e4,VR.gG v4]at hv4
   injection hv4 with hv4
   rw[<-hv4]
   exact .ref _ _
  ·intro v hv5
   have hv5:((a3.tmps.setIfInBounds 9 (fH b off k)).setIfInBounds 5 (fH b off k))[5]? =some v:=hv5
   rw[Array.getElem?_setIfInBounds_self_of_lt (by rw[Array.size_setIfInBounds,hsz];decide)]at hv5
   injection hv5 with hv5
   rw[<-hv5]
   exact hv
 ·intro G4 W4 s4 hS hI4 hp4 akf
  obtain⟨s1,r1,h1,h2,h3,rfl⟩:=hS
  obtain⟨rb,aml,sp,rfl⟩:=Ot h3 (by rw[TO];omega)
  have hlt:w3.heap.size<(w3.alloc (.deferred (some []))).heap.size:=by rw[World.size_alloc];omega
  refine last (kJ mix) DP (hI4.xc [4]) hp4 (xu iG fun rs s''=>∃s2,Sub s2 s''/\(rs=[.sl false 4 r.1.length (flat r.1),.int .i64 r.2]/\s2=s)) ?_ ?_
  ·refine L2 (s:=s) (by rw[TO];exact h1) h3.1 h2 (by rw[TO];omega) jW (by rw[agu K AT];omega) (fun e s' hs'=>?_) (fun e s' hs'=>?_)
   ·rw[e,cond_true]at h
    cases h
    exact⟨s,hs',rfl,rfl⟩
   ·rw[e,cond_false]at h
    cases h
    exact⟨s,hs',rfl,rfl⟩
  ·intro x G5 E' a' W5 k1 k2 k3
   have ph:∀(ee:rL (lq E' iG)=true)(hq:∃s2,Sub s2 E'.s/\(lq E' iG=[.sl false 4 r.1.length (flat r.1),.int .i64 r.2]/\s2=s)),_:=fun ee hq=>Mh (Q:=fun rs s''=>∃s2,Sub s2 s''/\(rs=[.sl false 4 r.1.length (flat r.1),.int .i64 r.2]/\s2=s)) Hu k1 ((hp3.trans (fR hI3.bc _ .frame 0).2.1).trans k2) (k2.jF _ hlt BY).1 ((k2.jF _ hlt BY).2.trans BY) ((k2.frame _ hlt (.inl BY)).trans (World.alloc_heap_new w3 _)) hp3.size ee hq
   cases x with
   |ret=>exact ph k3.1 k3.2
   |normal=>exact ph k3.1 k3.2
   |_=>exact k3.elim
def M9{s:ae}{Q:List AV->ae->Prop}(hq:∀s' r',Sub s s'->fZ s' r' ([]:List aa)->Q [jj r' 0] (jc s' r' ([]:List aa))):FN prog 252 [.arr 0 0 0 0] s Q:=by
 have cg:room=140737488355328:=rfl
 refine FO GY rfl rfl ?_
 rw[zT]
 refine Xf9 ?_
 have h1:decide ((0:Int)<0)=false:=rfl
 refine Xe4 ?_
 refine ja 0 (fun _ τ=>τ=(⟨[(0,.arr 0 0 0 0),(3,.int .i64 0),(9,.arr 0 0 0 0),(10,.int .i64 0),(11,.int .i64 0)],[],s⟩:St)) B_ rfl (fun k hk=>AT) ?_
 rintro J τ rfl
 refine Xe5 h1 ?_
 refine Pq (k:=0) AT fun s1 r1 hs1 hr1=>?_
 refine Xe7 ?_
 refine ja 0 (fun _ τ=>τ=(⟨[(6,jj r1 0),(25,.arr 0 0 0 0),(26,.int .i64 0),(27,.int .i64 0)],[],jc s1 r1 ([]:List aa)⟩:St)) B_ ?_ (fun k hk=>AT) ?_
 ·first|rfl|trace_state
 rintro J τ rfl
 refine Xe5 h1 ?_
 exact hq s1 r1 hs1 hr1
def L1{s s1:ae}{B2:Nat}{Q:List AV->ae->Prop}(hB:s1 B2=some (.cells [.arr 0 0 0 0]))(hs:Sub s s1)(q0:∀s',Sub s s'->Q [.sl false 4 0 [],.int .i64 0] s'):
 fY prog pk (xu iG Q) ⟨[(4,.ref B2 0)],[],s1⟩:=by
 rw[pk,iG]
 refine Xf9 ?_
 have h1:decide ((1:Int)<0)=false:=rfl
 refine Xg2 hB ?_
 refine VU ?_
 refine Xe7 ?_
 refine ja 0 (fun _ τ=>τ=(⟨[(4,.ref B2 0),(6,.int .i64 1)],[],s1⟩:St)) B_ rfl (fun k hk=>AT) ?_
 rintro J τ rfl
 refine Xf1 hB h1 ?_
 refine M9 fun s' r' hs' hr'=>?_
 refine Xe7 ?_
 refine IG rfl hr' rfl ?_
 refine Xe7 ?_
 exact q0 s' fun b o h=>hs' b o (hs b o h)
end Go.AB
end
section
set_option maxRecDepth 4000
namespace Go.AB
open Go Go.Proofs Go.RowKit
open Go.Proofs.Tryz (prog)
attribute[local go_sem] Oper.semAt_some
set_option maxHeartbeats 2000000 in
def QC{lo Bs Bn cap:Nat}{pt:Option Addr}{J:World->Prop}{W:World}(XB:∀W,J W->W.cell? ⟨Bs,0,none⟩=some (.slice pt 0 cap)/\W.cell? ⟨Bn,0,none⟩=some (.int .i64 2))(hd:∀W,J W->J W.drew)(h0:J W):
 CallsIn Fence.wide 2 prog 276 #[.func (.yield lo) #[] #[],.pointer (some ⟨Bs,0,none⟩),.pointer (some ⟨Bn,0,none⟩)] W fun e W'=>(∃v,e=.returned v)/\J W':=by
 have mixed:=mix
 refine callsIn_of_wp Go.Proofs.Tryz.func276 rfl trivial ?_ rfl
 simp only[show Go.Proofs.Tryz.f276.ntmps=31 from rfl,List.size_toArray,List.length_cons,List.length_nil,Nat.reduceAdd,Nat.reduceSub,Array.replicate_succ,Array.replicate_zero,List.push_toArray,List.append_toArray,List.nil_append,List.cons_append]
 gi_wp2
 gi_loopw [4] (fun i wr=>i=.int .i64 0/\J wr) (fun _ _=>0)
 case atStart=>exact⟨rfl,h0⟩
 case round=>
  obtain⟨rfl,hJ⟩:=hrel
  obtain⟨hb1,hb2⟩:=XB _ hJ
  gi_wp2
  go_end0
  exact⟨⟨_,rfl⟩,hJ⟩
end Go.AB
end
section
set_option maxRecDepth 4000
namespace Go.AB
open Go
open Go.Proofs.Tryz (prog)
attribute[-go_sem] Nat.add_zero mi cy bX cP bD bV
def Rq{s:ae}:FE prog 218 [rH []] s [.sl false 4 0 [],.int .i64 0] s:=by
 have cg:room=140737488355328:=rfl
 refine FN.j8 ?_
 intro G w vs hg ho hs ha
 have hI:=ry (n:=40) hg hs ha D_ (show 1<=40 by decide)
 refine callsIn_wide.1 (callsIn_of_wp_marks (n:=3) Go.Proofs.Tryz.func218 DK trivial ?_ rfl)
 rw[LZ]
 have mixed:=mix
 refine piece (kJ mix) DL hI (aI.refl G w) (fun E'=>E'=⟨[(0,rH [])],[],s⟩) ?_ ?_
 ·rw[wY];(conv in dec _=>reduce);unfold rH
  exact Xf8
 rintro G1 σ1 a1 w1 hI1 hp1 rfl
 refine piece (kJ mix) DM hI1 hp1 (fun E'=>∃B2,s B2=none/\E'=⟨[(0,rH []),(4,.ref B2 0)],[],s.set B2 (.cells [.arr 0 0 0 0])⟩) ?_ ?_
 ·rw[wZ];(conv in dec _=>reduce);unfold rH
  refine Xe4 ?_
  intro B2 hB2
  exact⟨B2,hB2,rfl⟩
 rintro G2 σ2 a2 w2 hI2 hp2 ⟨B2,hB2,rfl⟩
 refine wpIn_seq (piece (kJ mix) DN hI2 hp2 (fun E'=>∃Bs,(s.set B2 (.cells [.arr 0 0 0 0])) Bs=none/\∃Bn,((s.set B2 (.cells [.arr 0 0 0 0])).set Bs (.cells [rH []])) Bn=none/\
  E'=⟨[(4,.ref B2 0),(8,.fn 276 [] [.ref Bs 0,.ref Bn 0])],[],((s.set B2 (.cells [.arr 0 0 0 0])).set Bs (.cells [rH []])).set Bn (.cells [.int .i64 2])⟩) ?_ ?_)
 ·rw[w9];(conv in dec _=>reduce);unfold rH
  refine Xe4 ?_
  refine Kr (l:=[]) fun Bs h1 Bn h2=>?_
  refine Xe4 ?_
  exact⟨Bs,h1,Bn,h2,rfl⟩
 rintro G3 σ3 a3 w3 hI3 hp3 ⟨Bs,hBs,Bn,hBn,rfl⟩
 have n1:=hBs
 rw[di]at n1
 have n2:=hBn
 rw[di]at n2
 have n3:=n2.2
 rw[di]at n3
 have hsz:=hI3.size
 have e8:a3.tmps[8]? =some (a3.eval (.tmp 8)):=gw j_
 have e4:a3.tmps[4]? =some (a3.eval (.tmp 4)):=gw j_
 have v8:VR w3 G3.R (.fn 276 [] [.ref Bs 0,.ref Bn 0]) (a3.eval (.tmp 8)):=(hI3.cH 8 _ e8).1
 have v4:VR w3 G3.R (.ref B2 0) (a3.eval (.tmp 4)):=(hI3.cH 4 _ e4).1
 obtain⟨vf,vc,hv8,hvf,_,hvc,IL⟩:=VR.IT v8
 obtain rfl:vf= #[]:=Array.eq_empty_of_size_eq_zero hvf
 obtain rfl:vc= #[.pointer (some ⟨Bs,0,none⟩),.pointer (some ⟨Bn,0,none⟩)]:=by
  obtain⟨vl⟩:=vc
  match vl,hvc,IL with
  |[x,y],_,IL=>rw[VR.gG (IL 0 _ x rfl rfl),VR.gG (IL 1 _ y rfl rfl)]
 have hBx:(((s.set B2 (.cells [.arr 0 0 0 0])).set Bs (.cells [rH []])).set Bn (.cells [.int .i64 2])) Bs=some (.cells [rH []]):=by rw[af n2.1.symm,cE]
 have hBy:(((s.set B2 (.cells [.arr 0 0 0 0])).set Bs (.cells [rH []])).set Bn (.cells [.int .i64 2])) Bn=some (.cells [.int .i64 2]):=cE ..
 obtain⟨hOs,_,cs,ts,hhs,⟨ab8,ab9⟩,_⟩:=hI3.store Bs _ hBx
 obtain⟨hOn,_,cn,tn,hhn,⟨ab5,ab6⟩,_⟩:=hI3.store Bn _ hBy
 obtain⟨x,rfl⟩:∃x,cs= #[x]:=by
  obtain⟨cl⟩:=cs
  match cl,ab8 with
  |[x],_=>exact⟨x,rfl⟩
 obtain⟨y,rfl⟩:∃y,cn= #[y]:=by
  obtain⟨cl⟩:=cn
  match cl,ab5 with
  |[x],_=>exact⟨x,rfl⟩
 have hx:VR w3 G3.R (rH []) x:=(ab9 0 _ x rfl rfl).1
 have hy:y=.int .i64 2:=VR.b9 (ab6 0 _ y rfl rfl).1
 subst hy
 unfold rH at hx
 obtain⟨pt,cap,rfl⟩:∃pt cap,x=.slice pt 0 cap:=by
  rcases VR.gR hx with⟨he,_,_⟩|⟨b,off,cap,rfl,_,_,_,_⟩
  ·exact he.ex
  ·exact⟨_,_,rfl⟩
 have TX:((#[9]:Array Tmp).zip #[undef]).foldl (fun t(p,v)=>t.setIfInBounds p v) a3.tmps=a3.tmps.setIfInBounds 9 undef:=BY
 refine wpIn_block ?_
 rw[ZQ,SD]
 refine aa9 hI3 hv8 (fun args w=>lT Go.Proofs.Tryz.func276 By By args) (K:=0) (lV:=fun _=>undef) (avs:=fun _=>.undef) (S:=fun _ s'=>s' B2=some (.cells [.arr 0 0 0 0])/\Sub s s') [Bs,Bn] ?_ (fun k hk=>AT) ?_ (fun k=>({tmps:=a3.tmps.setIfInBounds 9 undef,defers:=[]}:Act).put (some 5) undef) ?_ ?_ (fun k hk=>AT) ?_
 ·intro b' hb'
  simp only[List.mem_cons,List.not_mem_nil,or_false]at hb'
  rcases hb' with rfl|rfl
  ·exact nh.2 hOs
  ·exact nh.2 hOn
 ·refine⟨?_,fun b' o hb'=>?_⟩
  ·show(if B2∈[Bs,Bn]then none else(((s.set B2 (.cells [.arr 0 0 0 0])).set Bs (.cells [rH []])).set Bn (.cells [.int .i64 2])) B2)=_
   rw[if_neg (by simp only[List.mem_cons,List.not_mem_nil,or_false,not_or];exact⟨n1.1.symm,n3.1.symm⟩),af n3.1.symm,af n1.1.symm,cE]
  ·have e1:b'≠B2:=fun e=>by subst e;rw[hB2]at hb';cases hb'
   have e2:b'≠Bs:=fun e=>by subst e;rw[n1.2]at hb';cases hb'
   have e3:b'≠Bn:=fun e=>by subst e;rw[n3.2]at hb';cases hb'
   show(if b'∈[Bs,Bn]then none else(((s.set B2 (.cells [.arr 0 0 0 0])).set Bs (.cells [rH []])).set Bn (.cells [.int .i64 2])) b')=_
   rw[if_neg (by simp only[List.mem_cons,List.not_mem_nil,or_false,not_or];exact⟨e2,e3⟩),af e3,af e2,af e1]
   exact hb'
 ·intro lo J W hbx hdr hY h0
  have c1:w3.cell? ⟨Bs,0,none⟩=some (.slice pt 0 cap):=by simp[World.cell?,hhs]
  have c2:w3.cell? ⟨Bn,0,none⟩=some (.int .i64 2):=by simp[World.cell?,hhn]
  exact QC (lo:=lo) (Bs:=Bs) (Bn:=Bn) (J:=J 0) (fun W h=>⟨(World.cell?_of_block (hbx 0 W h Bs BY)).trans c1,(World.cell?_of_block (hbx 0 W h Bn BY)).trans c2⟩) (fun W h=>hdr 0 W h) h0
 ·intro lo k W K' hk
  rw[TX]
  have hev:({tmps:=a3.tmps.setIfInBounds 9 undef,defers:=[]}:Act).eval (.tmp 9)=undef:=by
   show(a3.tmps.setIfInBounds 9 (undef)).getD 9 undef=_
   rw[Array.getD_eq_getD_getElem?,Array.getElem?_setIfInBounds_self_of_lt j_]
   rfl
  refine wpIn_region_list (wpListIn_plain rfl fun K2 hK2=>⟨fun _ _=>trivial,?_⟩)
  have hk2:K' (({tmps:=a3.tmps.setIfInBounds 9 undef,defers:=[]}:Act).put (some 5) (({tmps:=a3.tmps.setIfInBounds 9 undef,defers:=[]}:Act).eval (.tmp 9))) W:=by rw[hev];exact hk
  exact hK2 _ _ hk2
 ·intro G4 W4 s4 hS hI4 hp4 akf
  obtain⟨h1,h2⟩:=hS
  have hlt:w3.heap.size<(w3.alloc (.deferred (some []))).heap.size:=by rw[World.size_alloc];omega
  refine last (kJ mix) DP (hI4.xc [4]) hp4 (xu iG fun rs s''=>∃s2,Sub s2 s''/\(rs=[.sl false 4 0 [],.int .i64 0]/\s2=s)) ?_ ?_
  ·exact L1 (s:=s) h1 h2 fun s' hs'=>⟨s,hs',rfl,rfl⟩
  ·intro x G5 E' a' W5 k1 k2 k3
   have ph:∀(ee:rL (lq E' iG)=true)(hq:∃s2,Sub s2 E'.s/\(lq E' iG=[.sl false 4 0 [],.int .i64 0]/\s2=s)),_:=fun ee hq=>Mh (Q:=fun rs s''=>∃s2,Sub s2 s''/\(rs=[.sl false 4 0 [],.int .i64 0]/\s2=s)) Hu k1 ((hp3.trans (fR hI3.bc _ .frame 0).2.1).trans k2) (k2.jF _ hlt BY).1 ((k2.jF _ hlt BY).2.trans BY) ((k2.frame _ hlt (.inl BY)).trans (World.alloc_heap_new w3 _)) hp3.size ee hq
   cases x with
   |ret=>exact ph k3.1 k3.2
   |normal=>exact ph k3.1 k3.2
   |_=>exact k3.elim
end Go.AB
end
section
namespace Go.AB
open Go
open Go.Proofs.Tryz (prog)
def Vh:xJ mB:=fun s l r h=>by
 cases l with
 |nil=>
  have e:mB []=some ([],0):=rfl
  rw[e]at h;cases h
  exact Rq
 |cons x l=>exact Rr BY h
def ll(b:List UInt8)(a:Int)(last:Bool):Option (aa×Int×Int):=sm mB b a last
def DQ{b:List UInt8}{a:Int}{last:Bool}{s:ae}{r:aa×Int×Int}(h:ll b a last=some r):FE prog 127 [.sl false 1 b.length (flat b),.int .i64 a,.bool last] s
 [.agg [.int .i64 r.1.Kind,.int .i64 r.1.N,.str r.1.S.b,.sl false 4 r.1.L.length (flat r.1.L)],.int .i64 r.2.1,.int .i64 r.2.2] s:=
 FN.j8 (Wl Vh ⟨r,h,fun s' hs=>⟨s,hs,rfl,rfl⟩⟩)
end Go.AB
end
section
end
section
set_option maxRecDepth 16000
namespace Go.AB
open Go
open Go.Proofs.Tryz (prog)
attribute[-go_sem] bX cP bD bV
structure cu where
 b_:(List UInt8)
 at_:Int
 aR:Bool
instance:aO cu:=⟨3,fun x=>[sF 1 x.b_,.int .i64 x.at_,.bool x.aR],(cu.mk [] 0 false),B_,fun _=>rfl,fun _=>rfl⟩
structure ag where
 aB:cu
 e_:Int
instance:aO ag:=⟨4,fun x=>[sF 1 x.aB.b_,.int .i64 x.aB.at_,.bool x.aB.aR,.int .i64 x.e_],(ag.mk (cu.mk [] 0 false) 0),B_,fun _=>rfl,fun _=>rfl⟩
@[go_sem]abbrev CI(x:ag):List AV:=[sF 1 x.aB.b_,.int .i64 x.aB.at_,.bool x.aB.aR,.int .i64 x.e_]
def ax(r_0:ag)(e_1:Int):Option (ag):=
 if r_0.e_==0 then
  some (ag.mk r_0.aB e_1)
 else
  some r_0
def dq{r_0 e_1}{B0:Nat}{s:ae}{Q:List AV->ae->Prop}(hB0:s B0=some (.cells (CI r_0))):ok (ax r_0 e_1) (fun r=>Q [] (s.set B0 (.cells (CI r))))->FN prog 133 [.ref B0 0,.int .i64 e_1] s Q:=by
 rw[<-aU hB0]
 exact FC 13 [] 0x189bdbb9d437a531ec04b8efcb9da2151040493de27b0a71453e ax.eq_1
def aD(r_0:ag)(w_1:bg):Option (ag):=
 if r_0.e_ !=0 then
  some r_0
 else
  aZ (mC r_0.aB.b_ r_0.aB.at_ r_0.aB.aR w_1) fun r1=>
  some (ag.mk (cu.mk r_0.aB.b_ r1.1 r_0.aB.aR) r1.2)
def jG{r_0 w_1}{B0:Nat}{s:ae}{Q:List AV->ae->Prop}(hB0:s B0=some (.cells (CI r_0))):ok (aD r_0 w_1) (fun r=>Q [] (s.set B0 (.cells (CI r))))->FN prog 101 [.ref B0 0,.str w_1.b] s Q:=by
 rw[<-aU hB0]
 refine FR 36 [] 0x2207f64fab7c0930e6ee1bf9f0bf8184ce4cf5409baabc058e7c6aec51f5f1f710bac8c5c7ab6cb928ba4ffcc5e7b33c89931c3fffcda16ccbf3744abf024fc51e993bccb39a2834f3c3834b3cf54e8eb62ac4cdd1ee6c04c45375016b022097b3b5b9d50d6a3fc0de0ab2d3321a932cf6535dfb6f2e aD.eq_1 ?_
 repeat'(first
  |(with_reducible first|exact dj|refine cj ?_ ?_|refine dw ?_|refine aN (fun _(h:mC r_0.aB.b_ r_0.aB.at_ r_0.aB.aR w_1=some _)=>(kK Fu h:)) (fun r1=>?_))
  |refine Xe4 ?_|exact Xf8)
def cc(r_0:ag)(IE:Int)(Zo:Int):Option (Int×ag):=
 if r_0.e_ !=0 then
  some (0,r_0)
 else
  aZ (jb r_0.aB.b_ r_0.aB.at_ r_0.aB.aR) fun r1=>
  jn (
   if(r1.2.2==0)&&((decide (r1.1<IE))||(decide (r1.1>Zo)))then
    some 18
   else
    some r1.2.2) fun(e4:Int)=>
  some (r1.1,(ag.mk (cu.mk r_0.aB.b_ r1.2.1 r_0.aB.aR) e4))
def lJ{r_0 IE Zo}{B0:Nat}{s:ae}{Q:List AV->ae->Prop}(hB0:s B0=some (.cells (CI r_0))):ok (cc r_0 IE Zo) (fun r=>Q [.int .i64 r.1] (s.set B0 (.cells (CI r.2))))->FN prog 100 [.ref B0 0,.int .i64 IE,.int .i64 Zo] s Q:=by
 rw[<-aU hB0]
 refine FR 57 [⟨6,true,none⟩] 0x797d639cecd48de7d1561a61f34aebeadee84ea975a129ef84d2ae6253ffbedf1e81fafc876a19fe064b34bbac54684e0cdb79a9716360cf5862b61aab5e3e22c7e18ce44a75803367f1d8e3040e6e6174e56c2523e4adc2e255b127341232a98867a4ddf3d5a5a4e374b8d73236a83c8ae8a507cead23f5c6db6de6d1bf8ab81d154fa3ed4761254ecc2f5d9f1cca8767c9a4392cd64a80c830cca55ebc64023ce6ceb744b996a3f5e8976400c0ba cc.eq_1 ?_
 repeat'(first
  |(with_reducible first|exact dj|refine cj ?_ ?_|refine dw ?_|refine c7 (fun _(h:jb r_0.aB.b_ r_0.aB.at_ r_0.aB.aR=some _)=>(kK BO h:)) (fun _=>rfl) (fun r1=>?_))
  |((with_reducible refine dT (fun(e4:Int)=>⟨[(0,.ref B0 0),(7,.int .i64 r1.1),(8,.int .i64 r1.2.1),(9,.int .i64 e4)],[],(s.set B0 (.cells (CI r_0)))⟩) (fun J=>?_) ?_);rotate_left;rintro e4)
  |refine Xe4 ?_|exact Xf8)
def cz(r_0:ag):Option (aa×ag):=
 if r_0.e_ !=0 then
  some ((aa.mk 0 0 (bg.mk []) ([]:List aa)),r_0)
 else
  aZ (ll r_0.aB.b_ r_0.aB.at_ r_0.aB.aR) fun r1=>
  some (r1.1,(ag.mk (cu.mk r_0.aB.b_ r1.2.1 r_0.aB.aR) r1.2.2))
def sS{r_0}{B0:Nat}{s:ae}{Q:List AV->ae->Prop}(hB0:s B0=some (.cells (CI r_0))):ok (cz r_0) (fun r=>Q [oV r.1] (s.set B0 (.cells (CI r.2))))->FN prog 103 [.ref B0 0] s Q:=by
 rw[<-aU hB0]
 refine FR 42 [⟨2,false,some (4,true)⟩] 0x4477ac0321d2f96e564345a3f7a7338b5356c673dc8d861cc74bd5a50cd45edd8f033b7b8618ac69fab42838f18fd94e573f2e011c9112a4eaa312a1e3cd491072229703cd8398aae68b51249368ea7d4050ae7fddd78fac46dfd8c91c6789ad9306986124e8c018d26f38299548e8505e7a1ea38ab19e23ce6ceb7449916a81421f991eb37e0092753a cz.eq_1 ?_
 repeat'(first
  |with_reducible exact dj
  |((with_reducible refine Qu ?_ ?_);exact rfl)
  |(with_reducible first|refine cj ?_ ?_|refine dw ?_|refine c7 (fun _(h:ll r_0.aB.b_ r_0.aB.at_ r_0.aB.aR=some _)=>DQ h) (fun _=>rfl) (fun r1=>?_))
  |refine Xe4 ?_|exact Xf8)
def bu(r_0:ag):Option (Bool×ag):=
 if r_0.e_ !=0 then
  some (false,r_0)
 else
  aZ (eH r_0.aB.b_ r_0.aB.at_ r_0.aB.aR) fun r1=>
  jn (
   if r1.2 !=0 then
    some (ag.mk (cu.mk r_0.aB.b_ r1.1.To r_0.aB.aR) r1.2)
   else
    if r1.1.Kind==0 then
     aZ (ax (ag.mk (cu.mk r_0.aB.b_ r1.1.To r_0.aB.aR) r1.2) 10) fun r4=>
     some r4
    else
     if(r1.1.Kind !=6)||((!(r1.1.S.b==(bg.mk [101,110,100,111,98,106]).b))&&(!(r1.1.S.b==(bg.mk [115,116,114,101,97,109]).b)))then
      aZ (ax (ag.mk (cu.mk r_0.aB.b_ r1.1.To r_0.aB.aR) r1.2) 18) fun r5=>
      some r5
     else
      some (ag.mk (cu.mk r_0.aB.b_ r1.1.To r_0.aB.aR) r1.2)) fun(o3:ag)=>
  some ((o3.e_==0)&&(r1.1.S.b==(bg.mk [115,116,114,101,97,109]).b),o3)
def qQ{r_0}{B0:Nat}{s:ae}{Q:List AV->ae->Prop}(hB0:s B0=some (.cells (CI r_0))):ok (bu r_0) (fun r=>Q [.bool r.1] (s.set B0 (.cells (CI r.2))))->FN prog 104 [.ref B0 0] s Q:=by
 rw[<-aU hB0]
 refine FR 74 [⟨2,true,none⟩] 0x7dfdfcfeaf2d23bee32f9ac1c7dc63c4eedbd1f1407e79054a8b2f7488b41d10b0bb2280aea7abb0f0bdc1a1ae8e7719f48a43e31799efac5f7ba9e91b39f7091aabd1ffe7fb05d62229e54393244e6439a8bee67ed251943ec6fb1c64d82799ecf4f66751c3f03748dfebb0cbe989fff633785d58794fdd11e0b2143e83aa54d5956e85b631db58ff9173a2dd0945ba0eb860600fd55179e4a038122521e94583b2087a5de0fb0733eaf2d186ea0d70de3aeca4c4ebf642e375e32e7b0e21acc353290ad3604cc276eebdde21b0e76b328a07d009cfa19c04a1745b6de6d1bf8ab81d154fa3ed4761254ecc2f3ad6ac065e47f6ec272f216f1fc19cfba8e8fc23ce6ceb74499129a1b2c824473a bu.eq_1 ?_
 repeat'(first
  |with_reducible exact dj
  |((with_reducible refine Qu ?_ ?_);exact rfl)
  |(with_reducible first|refine cj ?_ ?_|refine dw ?_|refine c7 (fun _(h:eH r_0.aB.b_ r_0.aB.at_ r_0.aB.aR=some _)=>(kK lh h:)) (fun _=>rfl) (fun r1=>?_)|refine fun hh=>dq (B0:=B0) DO (aJ (show ok (ax (ag.mk (cu.mk r_0.aB.b_ r1.1.To r_0.aB.aR) r1.2) 10) _ from hh) fun r4=>?_)|refine fun hh=>dq (B0:=B0) DO (aJ (show ok (ax (ag.mk (cu.mk r_0.aB.b_ r1.1.To r_0.aB.aR) r1.2) 18) _ from hh) fun r5=>?_))
  |((with_reducible refine dT (fun(o3:ag)=>⟨[(0,.ref B0 0),(3,.loc [.int .i64 r1.1.Kind,.int .i64 r1.1.aP,.int .i64 r1.1.To,.int .i64 r1.1.V.Kind,.int .i64 r1.1.V.N,.str r1.1.V.S.b,sF 4 r1.1.V.L,.str r1.1.S.b])],[],(s.set B0 (.cells (CI o3)))⟩) (fun J=>?_) ?_);rotate_left;rintro o3)
  |refine Xe4 ?_|exact Xf8)
def dD(p_0:cu):Option (Int):=
 if p_0.aR then
  some 10
 else
  some 6
def vz{p_0}{B0:Nat}{preB0 postB0:List AV}{oB0:Nat}{s:ae}{Q:List AV->ae->Prop}(hB0:s B0=some (.cells (Wi preB0 [sF 1 p_0.b_,.int .i64 p_0.at_,.bool p_0.aR] postB0)))(eB0:preB0.length=oB0):ok (dD p_0) (fun r=>Q [.int .i64 r] s)->FN prog 169 [.ref B0 oB0] s Q:=by
 subst eB0
 rw[<-aU hB0]
 exact FC 7 [⟨2,true,none⟩] 0x6de8cfafaf9a6b582a0ce164a71a2564f29b56b50a5a1ffcc00473a dD.eq_1
def nH{p_0}{B0:Nat}{preB0 postB0:List AV}{oB0:Nat}{s:ae}{r:Int}(hB0:s B0=some (.cells (Wi preB0 [sF 1 p_0.b_,.int .i64 p_0.at_,.bool p_0.aR] postB0)))(eB0:preB0.length=oB0)(h:dD p_0=some r):FE prog 169 [.ref B0 oB0] s [.int .i64 r] s:=vz hB0 eB0 ⟨r,h,rfl,rfl⟩
def bG(r_0:ag):Option (ag):=
 jn (
  a8 ((decide (r_0.aB.at_<(r_0.aB.b_.length:Int)))=true->0<=r_0.aB.at_/\r_0.aB.at_<r_0.aB.b_.length)<|
  if(decide (r_0.aB.at_<(r_0.aB.b_.length:Int)))&&(((ix r_0.aB.b_ r_0.aB.at_).toNat:Int)==13)then
   some (ag.mk (cu.mk r_0.aB.b_ (aC (r_0.aB.at_+1)) r_0.aB.aR) r_0.e_)
  else
   some r_0) fun(o1:ag)=>
 if o1.e_ !=0 then
  some o1
 else
  if decide (o1.aB.at_>=(o1.aB.b_.length:Int))then
   aZ (dD o1.aB) fun r2=>
   aZ (ax o1 r2) fun r3=>
   some r3
  else
   a8 (0<=o1.aB.at_/\o1.aB.at_<o1.aB.b_.length)<|
   if((ix o1.aB.b_ o1.aB.at_).toNat:Int)!=10 then
    aZ (ax o1 18) fun r4=>
    some r4
   else
    some (ag.mk (cu.mk o1.aB.b_ (aC (o1.aB.at_+1)) o1.aB.aR) o1.e_)
def tH{r_0}{B0:Nat}{s:ae}{Q:List AV->ae->Prop}(hB0:s B0=some (.cells (CI r_0))):ok (bG r_0) (fun r=>Q [] (s.set B0 (.cells (CI r))))->FN prog 136 [.ref B0 0] s Q:=by
 rw[<-aU hB0]
 refine FR 88 [] 0xb237ce6db816119d474b17e3bfaa0b2c06d9339d4b38ce8ea1c932ff2b65b0bc370867e2e063d5f63125a6cfa83cd842c17b9f026b6d303cdf0a02e8926292d07797070c1a678ccb649d9d9de72cd91ccd4dd1deca60188ff3752c98cf0108c76a08ab7eac53c56421aec317bb690ec686e2327edb679b36b66d3d52e9ef50a4d023a9a9880439eeaee3c40b8fd5c57f83d907a0fcbc3fa76427fd447190d83b36cda8acf1b0be142b033eeecd2e7a67c38a99728304aa02fe3485e490f9e81b599e9abca02c962ae59b23a0ff286a8f069133ca6dad221af2735028c9a038defe669104149fbe4d834d013a1ac09e0fccb605f94f577906e6aee5a10 bG.eq_1 ?_
 repeat'(first
  |(with_reducible first|exact dj|refine cj ?_ ?_|refine dw ?_|refine aN (fun _(h:dD o1.aB=some _)=>nH (B0:=B0) (preB0:=[]) (postB0:=[.int .i64 o1.e_]) DO GU h) (fun r2=>?_)|refine fun hh=>dq (B0:=B0) DO (aJ (show ok (ax o1 r2) _ from hh) fun r3=>?_)|refine fun hh=>dq (B0:=B0) DO (aJ (show ok (ax o1 18) _ from hh) fun r4=>?_))
  |((with_reducible refine dT (fun(o1:ag)=>⟨[(0,.ref B0 0)],[],(s.set B0 (.cells (CI o1)))⟩) (fun J=>?_) ?_);rotate_left;rintro o1)
  |refine Xe4 ?_|exact Xf8)
def bd(r_0:ag)(n_1:Int):Option ((List UInt8)×ag):=
 if r_0.e_ !=0 then
  some (([]:List UInt8),r_0)
 else
  if decide (n_1>aC ((r_0.aB.b_.length:Int) -r_0.aB.at_))then
   aZ (dD r_0.aB) fun r1=>
   aZ (ax r_0 r1) fun r2=>
   some (([]:List UInt8),r2)
  else
   a8 (0<=aC ((aC (r_0.aB.at_+n_1)) -n_1)/\aC ((aC (r_0.aB.at_+n_1)) -n_1)<=aC (r_0.aB.at_+n_1)/\aC (r_0.aB.at_+n_1)<=r_0.aB.b_.length)<|
   some (part r_0.aB.b_ (aC ((aC (r_0.aB.at_+n_1)) -n_1)) (aC (r_0.aB.at_+n_1)),(ag.mk (cu.mk r_0.aB.b_ (aC (r_0.aB.at_+n_1)) r_0.aB.aR) r_0.e_))
def sR{r_0 n_1}{B0:Nat}{s:ae}{Q:List AV->ae->Prop}(hB0:s B0=some (.cells (CI r_0))):ok (bd r_0 n_1) (fun r=>Q [sF 1 r.1] (s.set B0 (.cells (CI r.2))))->FN prog 137 [.ref B0 0,.int .i64 n_1] s Q:=by
 rw[<-aU hB0]
 refine FR 60 [⟨4,false,none⟩] 0xdd3dc9e3104e260487ddb3ef62b5ca307a027e49f53ed53ee17a9c5718e1071ab6dc3890dd3ee455afb0a887d8ad2a5eb445b90fa9482ec1d5415404e43cb97f1070281a0d9d8c8771a62b7de76b6b19f9ce49773672067ab4b50cb27329b6ca7bab575f595fba5b41da8c931cbd03197b7e4df9470e4c3cbee76aa6713c6fb40733a0547e65e73016fa9586d31a287188b728483a88e2d3e7867815cb2730d0f2e3fa bd.eq_1 ?_
 repeat'(first
  |(with_reducible first|exact dj|refine cj ?_ ?_|refine dw ?_|refine aN (fun _(h:dD r_0.aB=some _)=>nH (B0:=B0) (preB0:=[]) (postB0:=[.int .i64 r_0.e_]) DO GU h) (fun r1=>?_)|refine fun hh=>dq (B0:=B0) DO (aJ (show ok (ax r_0 r1) _ from hh) fun r2=>?_))
  |refine Xe4 ?_|exact Xf8)
def lI(v_0:aa):Option (Bool×Bool):=
 aZ (j7 v_0 (bg.mk [70,105,108,116,101,114])) fun r1=>
 jn (
  if(r1.1.Kind==6)&&((r1.1.L.length:Int)==1)then
   a8 (0<=(0:Int)/\(0:Int)<r1.1.L.length)<|
   some (ix r1.1.L 0)
  else
   some r1.1) fun(f2:aa)=>
 some (r1.2,(!r1.2)||((f2.Kind==5)&&(f2.S.b==(bg.mk [70,108,97,116,101,68,101,99,111,100,101]).b)))
def Bu{v_0}:FF 134 [oV v_0] (lI v_0) fun r=>[.bool r.1,.bool r.2]:=by
 intro s Q
 refine FR 37 [⟨2,true,none⟩,⟨3,true,none⟩] 0x13e04c1068fdb586566392a969e847f585f4657fc26ee3ac3e2544613878507a6fd6907883998dbc92a6b789c037a5399f2895c9cfa6f54ed022759d68796974d4cf03b85a7fef6f73c3e2b1fd77422d2692e1c19ceffed69814f33dc9b703763e3b924a045a6f2121976bd53d2e2908f8a859c22ccac96c54843931c88ae99a5d7da9950c43fd0b07efe2e5acf3c982c6ea8ec36830399ac lI.eq_1 ?_
 repeat'(first
  |with_reducible refine aN (fun _(h:j7 v_0 (bg.mk [70,105,108,116,101,114])=some _)=>(kK sA h:)) (fun r1=>?_)
  |((with_reducible refine dT (fun(f2:aa)=>⟨[(4,.loc (M1 f2)),(5,.bool r1.2)],[],s⟩) (fun J=>?_) ?_);rotate_left;rintro f2)
  |refine Xe4 ?_|exact Xf8)
def bt(r_0:ag)(v_1:aa):Option (aA×ag):=
 aZ (j7 v_1 (bg.mk [76,101,110,103,116,104])) fun r1=>
 aZ (lI v_1) fun r2=>
 jn (
  aZ (kc (!((((v_1.Kind !=7)||(r1.1.Kind !=2))||(decide (r1.1.N<0)))||(decide (r1.1.N>16777216)))) false (mh v_1 (bg.mk [68,101,99,111,100,101,80,97,114,109,115]))) fun r8=>
  if(((((v_1.Kind !=7)||(r1.1.Kind !=2))||(decide (r1.1.N<0)))||(decide (r1.1.N>16777216)))||r8)||(!r2.2)then
   aZ (ax r_0 18) fun r9=>
   some r9
  else
   some r_0) fun(o7:ag)=>
 aZ (bG o7) fun r10=>
 aZ (bd r10 r1.1.N) fun r11=>
 aZ (aD r11.2 (bg.mk [101,110,100,115,116,114,101,97,109])) fun r12=>
 aZ (aD r12 (bg.mk [101,110,100,111,98,106])) fun r13=>
 jn (
  if r2.1&&(r13.e_==0)then
   aZ (gM r11.1 16777216) fun r18=>
   jn (
    if r18.2.2 !=0 then
     aZ (ax r13 18) fun r23=>
     some r23
    else
     some r13) fun(o22:ag)=>
   some (r18.1,o22)
  else
   some (r11.1,r13)) fun((CR,o17):(List UInt8)×ag)=>
 aZ (e9 v_1 (bg.mk [76,101,110,103,116,104])) fun r24=>
 aZ (e9 r24 (bg.mk [70,105,108,116,101,114])) fun r25=>
 aZ (n9 r25 (bg.mk CR)) fun r26=>
 some (r26,o17)
def rV{r_0 v_1}{B0:Nat}{s:ae}{Q:List AV->ae->Prop}(hB0:s B0=some (.cells (CI r_0))):ok (bt r_0 v_1) (fun r=>Q [.agg (cX5 r.1)] (s.set B0 (.cells (CI r.2))))->FN prog 105 [.ref B0 0,oV v_1] s Q:=by
 rw[<-aU hB0]
 refine FR 86 [⟨4,false,some (6,true)⟩] 0xeb92e87795161089ed0244fb5738e82f00762e06423bfb0b7aac3763ac56e579e51b978a5a9f7cdf9b69da85a22a17b875428fff66ee9b1ede1671d4bc20092bab449cd5af47cde543cd7c81d9cc85e8a0b9edd66e7d46fecff33b2fe2624d4c3d263a203778b81bc697d2b36cbfde6aa7fe6badb847bc110423c964d88f8bf0ca249e249e7d79fb2ab86f5c451a05c0942d3884816e9db33cd7aa274994ed8557d2572ace89f9a721c495a0f7fd9945bb1db2d6f8438dccf0e41089859d4f0db02ab2fe489c9ab59b77d80911c689a3813a2de20ed1be5b853755c2ad89ecb92fc5feba2ba45ac8a2bcd62144fb8d25095675049543caed539c9d5c06a06b9175566f588aea42e188f35cfdcfb3ff8eb5b00f9a1ebc09cd8e81e2f9bf322897e42dec487e1b799d035f5256781c019b65aef9b96ff7ad63985e235b27c95c4ee445560a7b6196a6597ecf21be542fbd149ac78f0e61e5c605b61e701639368726456bf3afe25bff273683dcd0f5908236fe47338b7ae0d3d013724c399feb bt.eq_1 ?_
 repeat'(first
  |(with_reducible first|exact dj|refine cj ?_ ?_|refine dw ?_|refine aN (fun _(h:j7 v_1 (bg.mk [76,101,110,103,116,104])=some _)=>(kK sA h:)) (fun r1=>?_)|refine aN (fun _(h:lI v_1=some _)=>(kK Bu h:)) (fun r2=>?_)|refine jT rfl (fun _(h:mh v_1 (bg.mk [68,101,99,111,100,101,80,97,114,109,115])=some _)=>(kK ID h:)) (fun _=>rfl) (fun r8=>?_)|refine fun hh=>dq (B0:=B0) DO (aJ (show ok (ax r_0 18) _ from hh) fun r9=>?_)|refine fun hh=>tH (B0:=B0) DO (aJ (show ok (bG o7) _ from hh) fun r10=>?_)|refine fun hh=>sR (B0:=B0) DO (aJ (show ok (bd r10 r1.1.N) _ from hh) fun r11=>?_)|refine fun hh=>jG (B0:=B0) DO (aJ (show ok (aD r11.2 (bg.mk [101,110,100,115,116,114,101,97,109])) _ from hh) fun r12=>?_)|refine fun hh=>jG (B0:=B0) DO (aJ (show ok (aD r12 (bg.mk [101,110,100,111,98,106])) _ from hh) fun r13=>?_)|refine aN (fun _(h:gM r11.1 16777216=some _)=>ET h) (fun r18=>?_)|refine fun hh=>dq (B0:=B0) DO (aJ (show ok (ax r13 18) _ from hh) fun r23=>?_)|refine c7 (fun _(h:e9 v_1 (bg.mk [76,101,110,103,116,104])=some _)=>qB h) (fun _=>rfl) (fun r24=>?_)|refine c7 (fun _(h:e9 r24 (bg.mk [70,105,108,116,101,114])=some _)=>qB h) (fun _=>rfl) (fun r25=>?_)|refine c7 (fun _(h:n9 r25 (bg.mk CR)=some _)=>(kK Bt h:)) (fun _=>rfl) (fun r26=>?_))
  |((with_reducible refine dT (live:=[(0,false),(3,false),(4,false),(5,false),(7,false)]) (fun(o7:ag)=>⟨[(0,.ref B0 0),(3,.loc (M1 v_1)),(4,.loc [.int .i64 0,.int .i64 0,.str (bg.mk []).b,.sl true 4 0 [],.bool false,.str (bg.mk []).b]),(5,.loc (M1 r1.1)),(7,.bool r2.1)],[],(s.set B0 (.cells (CI o7)))⟩) (fun J=>?_) ?_);rotate_left;rintro o7)
  |((with_reducible refine dT (live:=[(3,false),(4,false),(10,true)]) (fun(o22:ag)=>⟨[(3,.loc (M1 v_1)),(4,.loc [.int .i64 0,.int .i64 0,.str (bg.mk []).b,.sl true 4 0 [],.bool false,.str (bg.mk []).b]),(10,sF 1 r18.1)],[],(s.set B0 (.cells (CI o22)))⟩) (fun J=>?_) ?_);rotate_left;rintro o22)
  |((with_reducible refine dT (live:=[(3,false),(4,false),(9,true)]) (fun((CR,o17):(List UInt8)×ag)=>⟨[(3,.loc (M1 v_1)),(4,.loc [.int .i64 0,.int .i64 0,.str (bg.mk []).b,.sl true 4 0 [],.bool false,.str (bg.mk []).b]),(9,sF 1 CR)],[],(s.set B0 (.cells (CI o17)))⟩) (fun J=>?_) ?_);rotate_left;rintro⟨CR,o17⟩)
  |refine Xe4 ?_|exact Xf8)
def eV(b_0:(List UInt8))(fK:Int)(cS:Bool):Option (Int×aA×Int×Int):=
 aZ (cc (ag.mk (cu.mk b_0 fK cS) 0) 1 4096) fun r1=>
 aZ (cc r1.2 0 0) fun r2=>
 aZ (aD r2.2 (bg.mk [111,98,106])) fun r3=>
 aZ (cz r3) fun r4=>
 aZ (nZ r4.1) fun r5=>
 jn (
  aZ (bu r4.2) fun r10=>
  if r10.1 then
   aZ (bt r10.2 r5.V) fun r11=>
   some (r11.1,r11.2)
  else
   some (r5,r10.2)) fun((o8,o9):aA×ag)=>
 if o9.e_ !=0 then
  some (0,(aA.mk (aa.mk 0 0 (bg.mk []) ([]:List aa)) false (bg.mk [])),0,o9.e_)
 else
  some (r1.1,o8,o9.aB.at_,0)
def CY{b_0 fK cS}:FF 72 [sF 1 b_0,.int .i64 fK,.bool cS] (eV b_0 fK cS) fun r=>[.int .i64 r.1,.agg (cX5 r.2.1),.int .i64 r.2.2.1,.int .i64 r.2.2.2]:=by
 intro s Q
 intro h
 refine FN.forget ?_
 refine FP 51 [⟨6,true,none⟩,⟨7,false,some (6,true)⟩,⟨8,true,none⟩,⟨9,true,none⟩] (dec 0x13696e8817f01dd43421df8758bae7a77b76da91374d508b05276fc0cd3ef419751d68db184d5d699470ee8db98caf893582ef71bde2fa1ee1e3cd20e362ee31c7be29c5299d96687bb86a5d5b9aab1a3478a0a10dc1a9a5b79be605bd651adb9a6bb0a21e69b09ec4a50993e36299c7025380f147cffd8e5547e65fd3b0ff436bcd54796778a4238223db88e2a471f466e23b9b05bbec215d16f45278a823d128b9f982f3763fa5ca3d3176bace7b42ad476e8cea42a299f34d0ec46dceda27924f49c0f08774a3602bd03aeb21f239dc71aeba9bfb31c75d917840222c02e7c5bd7069e809b6f400c1ad) By rfl ?_
 revert h
 rw[eV]
 refine Xf9 ?_
 repeat'(first
  |(with_reducible first|exact dj|refine cj ?_ ?_|refine dw ?_|refine fun hh=>lJ (B0:=N1) DO (aJ (show ok (cc (ag.mk (cu.mk b_0 fK cS) 0) 1 4096) _ from hh) fun r1=>?_)|refine fun hh=>lJ (B0:=N1) DO (aJ (show ok (cc r1.2 0 0) _ from hh) fun r2=>?_)|refine fun hh=>jG (B0:=N1) DO (aJ (show ok (aD r2.2 (bg.mk [111,98,106])) _ from hh) fun r3=>?_)|refine fun hh=>sS (B0:=N1) DO (aJ (show ok (cz r3) _ from hh) fun r4=>?_)|refine aN (fun _(h:nZ r4.1=some _)=>(kK Br h:)) (fun r5=>?_)|refine fun hh=>qQ (B0:=N1) DO (aJ (show ok (bu r4.2) _ from hh) fun r10=>?_)|refine fun hh=>rV (B0:=N1) DO (aJ (show ok (bt r10.2 r5.V) _ from hh) fun r11=>?_))
  |((with_reducible refine dT (fun((o8,o9):aA×ag)=>⟨[(7,.loc [.int .i64 0,.int .i64 0,.str (bg.mk []).b,.sl true 4 0 [],.bool false,.str (bg.mk []).b]),(10,.ref N1 0),(11,.int .i64 r1.1),(12,.loc (cX5 o8))],[],(s.set N1 (.cells (CI o9)))⟩) (fun J=>?_) ?_);rotate_left;rintro⟨o8,o9⟩)
  |((fail_if_success (have _x:=sN1));with_reducible intro hh N1 hN1;(try simp only[di]at hN1);have sN1:=hN1;revert hh)
  |with_reducible exact fun hh=>⟨_,nu.set (nu.refl _) Y_,hh⟩
  |refine Xe4 ?_|exact Xf8)
def CX{b_0 fK cS}{s:ae}{r:Int×aA×Int×Int}(h:eV b_0 fK cS=some r):FE prog 72 [sF 1 b_0,.int .i64 fK,.bool cS] s [.int .i64 r.1,.agg (cX5 r.2.1),.int .i64 r.2.2.1,.int .i64 r.2.2.2] s:=CY ⟨r,h,rfl,rfl⟩
end Go.AB
end
section
set_option maxRecDepth 16000
namespace Go.AB
open Go
open Go.Proofs.Tryz (prog)
structure aj where
 aP:Int
 To:Int
 deriving DecidableEq
instance:aO aj:=⟨2,fun x=>[.int .i64 x.aP,.int .i64 x.To],(aj.mk 0 0),B_,fun _=>rfl,fun _=>rfl⟩
@[go_sem]theorem oS(x:aj):aO.cells x=[.int .i64 x.aP,.int .i64 x.To]:=rfl
@[go_sem]theorem YB(l:List aj)(i:Int):pad [.int .i64 0,.int .i64 0] (views (AB.sub (flat l) (i.toNat*2) 2))=[.int .i64 ((ix l i).aP),.int .i64 ((ix l i).To)]:=by rw[<-oS];exact tG _ 2 l i (by rw[oS];rfl) rfl
def jf(x_0:aj):Option (Bool):=some ((decide (x_0.aP<0))||(decide (x_0.To<=x_0.aP)))
def F6{x_0}:FF 97 [.agg [.int .i64 x_0.aP,.int .i64 x_0.To]] (jf x_0) fun r=>[.bool r]:=by
 intro s Q
 exact FC 13 [⟨2,true,none⟩] 0x2269e60fab00009b989e65be20b5a1921aec806cf3537bdbeacb2d28c58c9e368210995b jf.eq_1
def qx{x_0}{s:ae}{r:Bool}(h:jf x_0=some r):FE prog 97 [.agg [.int .i64 x_0.aP,.int .i64 x_0.To]] s [.bool r] s:=F6 ⟨r,h,rfl,rfl⟩
def bA(s_0:(List aj)):Option (Int):=
 zj (
  nV (
   iter (fun(t2:Int)=>
    if decide (t2<(s_0.length:Int))then
     a8 (0<=t2/\t2<s_0.length)<|
     aZ (jf (ix s_0 t2)) fun r4=>
     if r4 then
      some (.inr (.inr t2))
     else
      some (.inl (aC (t2+1)))
    else
     some (.inr (.inl ()))) 0) (fun(_:Unit)=>
   some (.inl ()))
  (fun(t3:Int)=>some (.inr t3))) (fun(_:Unit)=>
  some (-1))
 (fun(t1:Int)=>some t1)
theorem Pp:(sQ prog 97=true)=True:=eq_true By
def fJ{s_0}:FF 163 [.sl false 2 s_0.length (flat s_0),.fn 97 [] []] (bA s_0) fun r=>[.int .i64 r]:=by
 intro s Q
 refine FR 19 [⟨4,true,none⟩] 0x13ec7e6dde7cb2744e4e75812ff510dff68579477261a0815c8aa6b8476d95ae02bfce84bc7e438c1f454de06523fc026cd742537ed47394f62da005fe8417361861ef71dae3753cb1e9794757d13980083fa bA.eq_1 ?_
 repeat'(first
  |(with_reducible first|exact dj|refine cj ?_ ?_|refine dw ?_|refine aN (fun _(h:jf (ix s_0 t2)=some _)=>qx h) (fun r4=>?_))
  |((with_reducible refine cY (fun(t2:Int)=>⟨[(0,.sl false 2 s_0.length (flat s_0)),(1,.fn 97 [] []),(7,.int .i64 (s_0.length:Int)),(8,.int .i64 t2)],[],s⟩) ?_ ?_);(first|exact rfl|simp -implicitDefEqProofs only[go_sem,seval,Pp]);rintro J t2)
  |((with_reducible refine eF (fun(_:Unit)=>⟨[],[],s⟩) (fun J=>?_) ?_);rotate_left;rintro _)
  |simp -implicitDefEqProofs only[go_sem,seval,Pp])
def qI(pH:(List Int)):Option (Int):=
 zj (
  nV (
   iter (fun(t3:Int)=>
    if decide (t3<(pH.length:Int))then
     a8 (0<=t3/\t3<pH.length)<|
     if(ix pH t3)!=0 then
      some (.inr (.inr (ix pH t3)))
     else
      some (.inl (aC (t3+1)))
    else
     some (.inr (.inl ()))) 0) (fun(_:Unit)=>
   some (.inl ()))
  (fun(t5:Int)=>some (.inr t5))) (fun(_:Unit)=>
  some 0)
 (fun(t2:Int)=>some t2)
def Il{pH}:FF 147 [.sl false 1 pH.length (flat pH)] (qI pH) fun r=>[.int .i64 r]:=by
 intro s Q
 refine FR 18 [⟨2,true,none⟩] 0x3386be2e4554fbbd4da5b368412dc3e0b0063551da1cd55249d3f20d9dc2cd0ec20abaa8c34be922e8fb43a45e2dadab78a0c809668bdfdb6640be7a037170c1e4aa0033e84e5184f85cb0b1c852148e7bcc00473a qI.eq_1 ?_
 repeat'(first
  |((with_reducible refine cY (fun(t3:Int)=>⟨[(3,.int .i64 0),(6,.sl false 1 pH.length (flat pH)),(7,.int .i64 (pH.length:Int)),(8,.int .i64 t3)],[],s⟩) ?_ ?_);(first|exact rfl|simp -implicitDefEqProofs only[go_sem,seval]);rintro J t3)
  |((with_reducible refine eF (fun(_:Unit)=>⟨[(3,.int .i64 0)],[],s⟩) (fun J=>?_) ?_);rotate_left;rintro _)
  |refine Xe4 ?_|exact Xf8)
def qg(a_0:aj)(b_1:aj):Option (Int):=
 aZ (dp a_0.aP b_1.aP) fun r1=>
 aZ (dp a_0.To b_1.To) fun r2=>
 aZ (qI [r1,r2]) fun r3=>
 some r3
def Ev{a_0 b_1}:FF 130 [.agg [.int .i64 a_0.aP,.int .i64 a_0.To],.agg [.int .i64 b_1.aP,.int .i64 b_1.To]] (qg a_0 b_1) fun r=>[.int .i64 r]:=by
 intro s Q
 refine FR 17 [⟨4,true,none⟩] 0x42defd69891e3fbca7a88d7eaea8963b522bd272588ea38deca005f4671ca6bd0b98f3be796fc4e83d7600ce7ce5910981dc qg.eq_1 ?_
 repeat'(first
  |(with_reducible first|refine c7 (fun _(h:dp a_0.aP b_1.aP=some _)=>lF h) (fun _=>rfl) (fun r1=>?_)|refine c7 (fun _(h:dp a_0.To b_1.To=some _)=>lF h) (fun _=>rfl) (fun r2=>?_)|refine c7 (fun _(h:qI [r1,r2]=some _)=>(by refine HU ?_ ((kK Il h:));simp -implicitDefEqProofs only[go_sem,seval])) (fun _=>rfl) (fun r3=>?_))
  |refine Xe4 ?_|exact Xf8)
def Eu{a_0 b_1}{s:ae}{r:Int}(h:qg a_0 b_1=some r):FE prog 130 [.agg [.int .i64 a_0.aP,.int .i64 a_0.To],.agg [.int .i64 b_1.aP,.int .i64 b_1.To]] s [.int .i64 r] s:=Ev ⟨r,h,rfl,rfl⟩
def AY:IC:=dec 0x149998c2ffeb70b596dc1d66fb6a207ffb25cf0986c7cd23b460cead28ec022b5b4473a
def Ln:ey prog 106 8 [⟨2,true,none⟩] AY=true:=By
def zy(l:List aj)(s:ae)(rs:List AV)(s':ae):Prop:=(∃b cap sp,rs=[.arr b 0 l.length cap]/\s b=none/\0<cap/\l.length<=cap/\(flat l++sp).length=cap*2/\views (flat l++sp)=flat l++sp/\s'=s.set b (.cells (flat l++sp)))\/(l=[]/\s'=s/\∃b,rs=[.arr b 0 0 0])
def xY{o:Bool}{l:List aj}{s:ae}(hr:l.length*16<=room):FN prog 106 [.sl o 2 l.length (flat l)] s (zy l s):=by
 refine FN.j8 (FO Ln rfl rfl ?_)
 generalize hQ:(fun rs s'=>∃s2,Sub s2 s'/\zy l s rs s2)=Q
 have hq:∀rs s' s2,Sub s2 s'->zy l s rs s2->Q rs s':=fun rs s' s2 h1 h2=>Xa6
 rw[AY]
 refine Xf9 ?_
 refine Xe4 ?_
 intro v hv
 refine⟨fun h=>hq _ _ s (Sub.refl s) (.inr ⟨List.eq_nil_of_length_eq_zero (hv J_),rfl,0,rfl⟩),fun _ b1 hb1=>?_⟩
 rw[gn,aF]
 by_cases hl:l=[]
 ·subst hl
  refine mL rfl rfl (Nat.le_refl 0) ?_
  refine Xe4 ?_
  exact hq _ _ s ((Sub.refl s).set hb1) (.inr ⟨rfl,rfl,_,rfl⟩)
 ·have hn:0<l.length:=List.length_pos_iff.2 hl
  refine eo rfl rfl AT s_ fun b2 cap hb2 fh=>?_
  rw[Nat.zero_add]at fh
  have hz:(List.replicate (cap -(0+l.length)) [.int .i64 0,.int .i64 0]).flatten=flat (List.replicate (cap -l.length) (aj.mk 0 0:aj)):=Xa7
  rw[hz]
  simp -implicitDefEqProofs only[go_sem,seval,Nat.zero_add,List.nil_append]
  have Nw:s b2=none:=((Sub.refl s).set hb1).none hb2
  refine hq _ _ _ (Sub.F0 ((Sub.refl s).set hb1)) (.inl ⟨b2,cap,_,rfl,Nw,AT,fh,?_,?_,rfl⟩)
  ·rw[List.length_append,au,au,List.length_replicate]
   show l.length*2+(cap -l.length)*2=cap*2
   omega
  ·rw[lX,aF,aF]
def Ku{o:Bool}{l:List aj}{s:ae}(hr:l.length*16<=room):FE prog 106 [.sl o 2 l.length (flat l)] s [.us 2 l.length (flat l)] s:=
 FN.VN (au l) ⟨rfl,rfl⟩ ((xY hr).mono fun rs s' h=>by
  rcases h with⟨b,cap,sp,h1,h2,h3,h4,h5,h6,h7⟩|⟨h1,h2,h3⟩
  ·exact .inl ⟨b,cap,sp,h1,t_,h3,h4,h5,h6,u_⟩
  ·subst h1;exact .inr ⟨rfl,rfl,w_,h3⟩)
def zS:IC:=dec 0xff7229943b73dfe418dcb3b67f6648e1c61d0c576384bad8826fe323f7575740a3cc2fc49fca9aa239db4b56d7eae373e1436081b195bb087971c1f77cde58e44ef3bdcafa3f3b44d6e00d171e8d51ff17f647eee31815533efacefafeffc2d4136afa436a75a3f0b5efb6e63ba27e77da4fd47e481ff123d369365ab462e3f5e892581effce2fc7603aa3f48f6ad53543e3a5b06a99b2bce60af7305f19d43cfb9dafba30619727483fa
def GX:ey prog 128 42 [⟨4,true,none⟩] zS=true:=By
end Go.AB
end
