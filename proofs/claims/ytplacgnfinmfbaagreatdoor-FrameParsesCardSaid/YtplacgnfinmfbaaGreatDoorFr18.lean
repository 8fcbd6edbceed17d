/- A part. -/
import Derived.Test.YtplacgnfinmfbaaGreatDoorFr7
import Derived.Test.YtplacgnfinmfbaaGreatDoorFr17
set_option linter.defProp false
set_option linter.unusedSimpArgs false
set_option linter.unusedVariables false
section
set_option maxRecDepth 16000
namespace Go.AB
open Go
open Go.Proofs.Tryz (prog)
attribute[-go_sem] Nat.add_zero rE dE cL dm cg cK
def wu:IC:=dec 0x51000d1407f3
def wv:IC:=dec 0x3627b9498aa
def wx:IC:=dec 0x158ec205d36c12d8d3
def oD:IC:=dec 0x2fcf6b6fa351147477b9e789ceab8fec5df2bc65cc4853b05e3af8bcd539308f6582208bf0d3106def54c4e5a8194a1063c6d0c35b4f945b69216dc56a90716e5df567e6448925e654bce3749c0b8dcf61244199030d591ab40a26b02bf6d6c6af331e334a96594d72984a1b524670deae563fce1b820e6e2e99fcab70e3ac657e711131b0bd4016bf66346054d4703bc7413b40b
def wy:IC:=dec 0x10de4724f9c2c93ea71b3a438d40ef661054ca754d7ee
def iM:List kT:=[⟨2,false,none⟩,⟨3,true,none⟩]
abbrev q8(l:List aa):AV:=.sl false 4 l.length (flat l)
def HU{s:ae}{l:List aa}{Q:List AV->ae->Prop}(hq:∀Bs,s Bs=none->∀Bn,(s.set Bs (.cells [q8 l])) Bn=none->Q [.fn 260 [] [.ref Bs 0,.ref Bn 0]] ((s.set Bs (.cells [q8 l])).set Bn (.cells [.int .i64 2]))):FN prog 211 [q8 l,.int .i64 2] s Q:=by
 refine FS 9 [⟨4,true,none⟩] 0x1df974198ae0b7b3de7f66189bf8198a9a2ba880658cc2443cdda948a4621dc ?_
 have h0:decide ((2:Int)<1)=false:=rfl
 refine Xh2 ?_
 intro Bs h1 Bn h2
 refine Xh6 h0 ?_
 exact hq Bs h1 Bn h2
def cA:Code->Code
 |.seq a _=>a
 |c=>c
def cB:Code->Code
 |.seq _ b=>b
 |c=>c
def rfA:Code->Code
 |.rangeFunc _ _ a _=>a
 |c=>c
def rfB:Code->Code
 |.rangeFunc _ _ _ b=>b
 |c=>c
def cIn:Code->Code
 |.block _ c=>c
 |c=>c
def Yj:Code->Array Oper
 |.region _ ops _=>ops
 |_=> #[]
def Pj:IC->List aH
 |.block _ (.Vw _ l _)=>l
 |_=>[]
noncomputable def CI:Code:=(Go.Proofs.Tryz.f159.body).getD .skip
noncomputable def pC1:Code:=cA CI
noncomputable def pC2:Code:=cA (cB CI)
noncomputable def pC3:Code:=cA (cA (cB (cB CI)))
noncomputable def pRf:Code:=cIn (cB (cA (cB (cB CI))))
noncomputable def pC4:Code:=cB (cB (cB CI))
noncomputable def Tk:Array Oper:=Yj (cIn (rfB pRf))
def CJ:Go.Proofs.Tryz.f159.body=some (.seq pC1 (.seq pC2 (.seq (.seq pC3 (.block 0 (.rangeFunc (.tmp 8) #[9] (rfA pRf) (rfB pRf)))) pC4))):=C_
theorem N9:rfB pRf=.block 1 (.region 4 Tk false):=C_
theorem Uv:rfA pRf=.region 3 #[{dst:=some 5,op:=.assign (.tmp 9),type:=24,pos:= "parse.go:116",after:= #[],guard:=none}] false:=C_
def CK:mr prog 40 pC1 wu=true:=C_
def CL:mr prog 40 pC2 wv=true:=C_
def CM:mr prog 40 pC3 wx=true:=C_
def CN:mr prog 40 pC4 oD=true:=C_
def KH:eD prog 40 Tk Tk.toList (Pj wy)=true:=C_
def Jb:Tk.toList.all xV=true:=C_
def Fh:kl prog Go.Proofs.Tryz.f159.results.toList iM=true:=C_
theorem Jc:Go.Proofs.Tryz.f159.ntmps=40:=C_
def jx(l:List aa)(k:Nat):List aa:=(l.drop (2*k)).take 2
def fE(l:List aa)(k:Nat):List VL:=(List.range k).map (jx l)
theorem rq(l:List aa)(k:Nat):fE l (k+1)=fE l k++[jx l k]:=by unfold fE;rw[List.range_succ,List.map_append];rfl
def zJ(l:List aa)(k:Nat):(fE l k).length=k:=by simp[fE]
theorem ou(l:List aa)(k:Nat)(h:2*k+2<=l.length):(jx l k).length=2:=by unfold jx;rw[List.length_take,List.length_drop];omega
def Oi{w:World}{R:Nat->Nat}{l:List aa}{b off k:Nat}(hR:off+(flat l).length<=R b)(ha:At w R b off (flat l))(hk:2*k+2<=l.length):VR w R (q8 (jx l k)) (fM b off k):=by
 obtain⟨u,h1,h2,h3⟩:=ha
 have hs:=qn l 4 (2*k) 2 rfl
 have hl:(flat (jx l k)).length=2*4:=by rw[a8,ou l k hk];rfl
 have hfl:(flat l).length=l.length*4:=a8 l
 have hg:∀(j:Nat)(c:AV),(flat (jx l k))[j]? =some c->(flat l)[2*k*4+j]? =some c:=fun j c hj=>by
  unfold jx at hj
  rw[<-hs,Hl]at hj
  split at hj
  ·exact hj
  ·cases hj
 unfold q8 fM
 rw[ou l k hk]
 refine .sl false 4 2 _ b _ 2 (fun j=>u (2*k*4+j)) (fun c hc=>?_) hl AT (Nat.le_refl _) (fun j c hj=>?_) (fun j c hj=>h2 _ c (hg j c hj))
 ·obtain⟨j,hj⟩:=List.mem_iff_getElem?.1 hc
  exact h3 c (List.mem_of_getElem? (hg j c hj))
 ·rw[Nat.add_assoc];exact h1 _ c (hg j c hj)
def nbB(ls:List VL)(i:Int):Option (Int⊕Bool):=
 bif decide (i<ls.length)then aI (1<=i/\i<2^62/\0<(ix ls i).length/\0<(ix ls (i -1)).length)<|
  bif(ix (ix ls i) 0).S.b==(ix (ix ls (i -1)) 0).S.b then some (.inr true)else some (.inl (i+1))
 else some (.inr false)
def QD{s:ae}{r:db}{ls:List VL}{B:Nat}{o o':SO}(h:iR s r ls)(hB:s B=some o):(kc s r ls).set B o'=kc (s.set B o') r ls/\iR (s.set B o') r ls:=by
 cases r with
 |none=>exact⟨rfl,h⟩
 |some x=>
  obtain⟨rb,cap,sp⟩:=x
  obtain⟨h1,h2⟩:=h
  have hne:B≠rb:=fun e=>by subst e;rw[h1]at hB;cases hB
  refine⟨set_comm hne,⟨Xf0,h2⟩⟩
def FL(s:ae)(B2:Nat)(l:List aa)(k:Nat)(s':ae):Prop:=∃s1 r,s1 B2=some (.cells [jG r k])/\Sub s s1/\iR s1 r (fE l k)/\s'=kc s1 r (fE l k)
def Sy{n i j:Nat}{x y:AV}{G:Gh}{W:World}{s:ae}{t:Array Value}(hij:i≠j)(hi:i<n)(hj:j<n)(hg:cS G W)(hs:bB G W s)(ht:t.size=n)(hx:view x=x/\ee x=true)(hy:view y=y/\ee y=true)
 (h1:∀v,t[i]? =some v->VR W G.R x v)(h2:∀v,t[j]? =some v->VR W G.R y v):Inv G n [] ⟨[(i,x),(j,y)],[],s⟩ {tmps:=t,defers:=[]} W:=by
 have lk:∀k,look [(i,x),(j,y)] k=if i=k then x else if j=k then y else .undef:=fun k=>by rw[bA,bA];rfl
 refine⟨hg,hs,ht,fun k v hk=>?_,fun k hk=>?_,fun k d hd=>?_,rfl⟩
 ·show dT G W _ t k (look [(i,x),(j,y)] k) v
  rw[lk]
  by_cases e1:i=k
  ·subst e1;rw[if_pos rfl,<-hx.1];exact dT.xS hx.2 (h1 v hk)
  ·rw[if_neg e1]
   by_cases e2:j=k
   ·subst e2;rw[if_pos rfl,<-hy.1];exact dT.xS hy.2 (h2 v hk)
   ·rw[if_neg e2];exact⟨.undef _,trivial⟩
 ·show look [(i,x),(j,y)] k=.undef
  rw[lk,if_neg AT,if_neg AT]
 ·have hd:bS (look [(i,x),(j,y)] k) d:=hd
  rw[lk]at hd
  split at hd
  ·exact(fA hx.2 d hd).elim
  ·split at hd
   ·exact(fA hy.2 d hd).elim
   ·exact hd.elim
end Go.AB
end
section
namespace Go.AB
open Go
theorem pU:∀x y:List UInt8,Op.bytesLess x y=false->Op.bytesLess y x=false->x=y
 |[],[],_,_=>rfl
 |[],_::_,h,_=>by cases h
 |_::_,[],_,h=>by cases h
 |a::x,b::y,h1,h2=>by
  rw[oq]at h1 h2
  simp only[Bool.or_eq_false_iff,decide_eq_false_iff_not,Bool.and_eq_false_iff,beq_eq_false_iff_ne,UInt8.lt_iff_toNat_lt]at h1 h2
  have hab:a=b:=UInt8.toNat_inj.1 AT
  subst hab
  rw[pU x y (h1.2.resolve_left fun h=>h rfl) (h2.2.resolve_left fun h=>h rfl)]
def Xm{x y:VL}(h1:xP y x=false)(h2:((ix y 0).S.b==(ix x 0).S.b)=false):xP x y=true:=by
 cases h:xP x y with
 |true=>rfl
 |false=>
  have:=pU _ _ h1 h
  grind
theorem Xl{x y z:VL}(h1:xP x y=true)(h2:xP z y=false):xP x z=true:=by
 cases h:xP x z with
 |true=>rfl
 |false=>rw[<-h1];exact(GC.tr _ _ _ h2 h).symm▸rfl
def nK:List VL->Bool
 |x::y::t=>((ix y 0).S.b==(ix x 0).S.b)||nK (y::t)
 |_=>false
theorem Ey(x y:VL)(t:List VL):nK (x::y::t)=(((ix y 0).S.b==(ix x 0).S.b)||nK (y::t)):=rfl
def strict:∀{Z:List VL},jI xP Z->nK Z=false->Z.Pairwise fun x y=>xP x y=true
 |[],_,_=>List.Pairwise.nil
 |[x],_,_=>List.pairwise_singleton _ _
 |x::y::t,h,ha=>by
  unfold nK at ha
  rw[Bool.or_eq_false_iff]at ha
  obtain⟨h1,h2⟩:=List.pairwise_cons.1 h
  have ih:=strict h2 ha.2
  have hxy:=Xm (h1 y B_) ha.1
  refine List.pairwise_cons.2 ⟨fun z hz=>?_,ih⟩
  rcases List.mem_cons.1 hz with rfl|hz
  ·exact hxy
  grind [Xl,List.pairwise_cons]
def VO{Z W:List VL}(p:Z.Perm W)(h1:jI xP Z)(h2:jI xP W)(ha:nK Z=false):Z=W:=by
 have hs:=strict h1 ha
 refine List.Perm.eq_of_pairwise (le:=fun x y=>xP y x=false) (fun a b ha hb e1 e2=>?_) h1 h2 p
 have hb:=p.mem_iff.2 hb
 have key:∀{L:List VL},L.Pairwise (fun x y=>xP x y=true)->a∈L->b∈L->a=b:=by
  intro L
  induction L with
  |nil=>grind
  |cons c L ih=>grind [List.pairwise_cons]
 grind
def Xp(Z:List VL)(jR:∀c∈Z,0<c.length)(hl:Z.length<2^60):iter (nbB Z) 1=some (nK Z):=by
 obtain⟨o,h1,rfl⟩:=cF (body:=nbB Z) (s0:=1) (fun q=>∃i:Nat,q=(i:Int)+1/\nK (Z.drop i)=nK Z/\i<=Z.length) (fun q=>((Z.length:Int)+1 -q).toNat) (fun o=>o=nK Z)
  ⟨0,rfl,A_,Nat.zero_le _⟩ AT (by
    rintro q ⟨i,rfl,ha,hi⟩
    unfold nbB
    by_cases h:i+1<Z.length
    ·have e1:Z.drop i=Z[i]::Z[i+1]::Z.drop (i+2):=by rw[List.drop_eq_getElem_cons AT,List.drop_eq_getElem_cons (i:=i+1) h]
     have e2:Z.drop (i+1)=Z[i+1]::Z.drop (i+2):=List.drop_eq_getElem_cons h
     have i1:ix Z ((i:Int)+1)=Z[i+1]:=by have:=eK (l:=Z) h;rw[<-this];congr 1
     have i2:ix Z ((i:Int)+1 -1)=Z[i]:=by rw[show(i:Int)+1 -1=(i:Int) by omega];exact eK AT
     rw[e1,Ey]at ha
     rw[show decide ((i:Int)+1<Z.length)=true by simp;omega,cond_true,i1,i2,aP ⟨AT,AT,jR _ (List.getElem_mem _),jR _ (List.getElem_mem _)⟩]
     cases he:((ix Z[i+1] 0).S.b==(ix Z[i] 0).S.b)with
     |true=>grind
     |false=>grind
    ·rw[show decide ((i:Int)+1<Z.length)=false by simp;omega,cond_false]
     refine⟨.inr false,rfl,?_⟩
     rw[<-ha]
     rcases hd:Z.drop i with _|⟨x,t⟩
     ·rfl
     ·have:=congrArg List.length hd
      rw[List.length_drop,List.length_cons]at this
      obtain rfl:t=[]:=List.eq_nil_of_length_eq_zero AT
      rfl)
 exact h1
def yZ(x:VL):List VL->List VL
 |[]=>[x]
 |y::t=>if xP x y then x::y::t else y::yZ x t
theorem mz(x:VL):∀l,(yZ x l).Perm (x::l)
 |[]=>List.Perm.refl _
 |y::t=>by
  unfold yZ
  split
  ·exact List.Perm.refl _
  ·exact((mz x t).cons y).trans (List.Perm.swap x y t)
def Cm(x:VL):∀{l},jI xP l->jI xP (yZ x l)
 |[],_=>jI.one x
 |y::t,h=>by
  obtain⟨h1,h2⟩:=List.pairwise_cons.1 h
  unfold yZ
  split
  ·rename_i hxy
   refine List.pairwise_cons.2 ⟨fun z hz=>?_,h⟩
   have h3:=GC.Rh _ _ hxy
   rcases List.mem_cons.1 hz with rfl|hz
   ·exact h3
   ·exact GC.tr _ _ _ h3 (h1 z hz)
  ·rename_i hxy
   refine List.pairwise_cons.2 ⟨fun z hz=>?_,Cm x h2⟩
   rcases List.mem_cons.1 ((mz x t).mem_iff.1 hz)with rfl|hz
   ·grind
   grind
def vj(l:List VL):List VL:=l.foldr yZ []
def uL:∀l,(vj l).Perm l
 |[]=>List.Perm.refl _
 |x::l=>(mz x _).trans ((uL l).cons x)
def yx:∀l,jI xP (vj l)
 |[]=>List.Pairwise.nil
 |x::l=>Cm x (yx l)
def iJ(l:List aa):Option (List aa×Int):=
 aI ((l.length:Int)<2^30/\l.length % 2=0)<|
 bif nK (vj (fE l (l.length/2)))then some ([],16)else some ((vj (fE l (l.length/2))).flatten,0)
def ze{Z C:List VL}(p:Z.Perm C)(h:jI xP Z):nK Z=nK (vj C)/\(nK Z=false->Z=vj C):=by
 have p2:Z.Perm (vj C):=p.trans (uL C).symm
 have k:nK Z=false->Z=vj C:=VO p2 h (yx C)
 refine⟨?_,k⟩
 cases h1:nK Z with
 |false=>grind
 |true=>
  cases h2:nK (vj C)with
  |true=>rfl
  |false=>
   have:=VO p2.symm (yx C) h h2
   grind
end Go.AB
end
section
set_option maxRecDepth 4000
namespace Go.AB
open Go
open Go.Proofs.Tryz (prog)
attribute[-go_sem] Nat.add_zero rE dE cL dm cg cK
def PN{α:Type}{c:Prop}[Decidable c]{o:Option α}{r:α}(h:aI c o=some r):c/\o=some r:=by
 by_cases hc:c
 ·rw[aP hc]at h;exact⟨hc,h⟩
 ·unfold aI at h
  rw[if_neg hc]at h;cases h
def Je{s s1:ae}{B2 rb cap:Nat}{sp:List AV}{ls:List VL}{Q:List AV->ae->Prop}(hB:s1 B2=some (.cells [.arr rb 0 ls.length cap]))(hrb:s1 rb=none)(hs:Sub s s1)(hl:(ls.length:Int)<2^40)(hz:∀c∈ls,0<c.length)(hfl:ls.flatten.length*56<=room)
 (q1:nK (vj ls)=true->∀s',Sub s s'->Q [.sl false 4 0 [],.int .i64 16] s')(q0:nK (vj ls)=false->∀s',Sub s s'->Q [.sl false 4 (vj ls).flatten.length (flat (vj ls).flatten),.int .i64 0] s'):
 gx prog oD (yn iM Q) ⟨[(4,.ref B2 0)],[],s1.set rb (.cells (flat ls++sp))⟩:=by
 have bP:room=140737488355328:=rfl
 have hne:B2≠rb:=fun e=>by subst e;rw[hrb]at hB;cases hB
 have hB':∀cs,(s1.set rb (.cells cs)) B2=some (.cells [.arr rb 0 ls.length cap]):=fun cs=>by rw[aj hne];exact hB
 rw[oD,iM]
 refine Xh4 ?_
 refine Xh5 hB' ?_
 refine QK AT hz fun two p1 s1'=>?_
 have hlen:=p1.length_eq
 have jR:∀c∈two,0<c.length:=fun c hc=>hz c (p1.mem_iff.1 hc)
 obtain⟨ka,kb⟩:=ze p1 s1'
 have ag6:two.flatten.length=ls.flatten.length:=p1.flatten.length_eq
 have hn:ok (iter (nbB two) 1) fun d=>(d=true->∀s',Sub s s'->Q [.sl false 4 0 [],.int .i64 16] s')/\(d=false->∀s',Sub s s'->Q [.sl false 4 two.flatten.length (flat two.flatten),.int .i64 0] s'):=⟨_,Xp two jR AT,fun e=>q1 (ka▸e),fun e=>by rw[kb e];exact q0 (ka▸e)⟩
 rw[<-hlen]
 rw[<-hlen]at hB' hl
 refine Xh2 ?_
 refine bk (fun(i:Int)=>(⟨[(4,.ref B2 0),(6,.int .i64 i)],[],s1.set rb (.cells (flat two++sp))⟩:St)) rfl ?_ hn
 ·intro J i hb
  unfold nbB at hb
  cases hlt:decide (i<two.length)with
  |false=>
   rw[hlt,cond_false,bK]at hb
   refine Xi2 hB' hlt ?_
   simp only[ur]at hb
   refine MI hrb jR AT AT fun s' r' hs' hr'=>?_
   refine Xh2 ?_
   refine Lv rfl hr' rfl ?_
   refine Xh2 ?_
   exact hb.2 trivial s' fun b o h=>hs' b o ((hs.set hrb) b o h)
  |true=>
   rw[hlt,cond_true,il]at hb
   obtain⟨⟨h1,h2,h3,h4⟩,hb⟩:=hb
   have hi:i<two.length:=c_
   obtain⟨r1,r2⟩:=TW two sp (j:=i) AT hi
   obtain⟨r3,r4⟩:=TW two sp (j:=i -1) AT AT
   have w1:ao (i -1)=i -1:=ak AT AT
   have w2:ao (i+1)=i+1:=ak AT AT
   generalize hcs:flat two++sp=cs at*
   have d1:=decide_eq_true r1
   have d3:=decide_eq_true r3
   refine Xk0 hB' hlt w1 w2 r2 r4 d1 d3 ?_
   refine⟨⟨AT,hi⟩,⟨Int.le_refl _,AT⟩,⟨AT,AT⟩,⟨Int.le_refl _,AT⟩,fun he=>?_,fun he=>?_⟩
   ·rw[he,cond_true,bK]at hb
    simp only[ur]at hb
    exact hb.1 trivial _ (hs.set hrb)
   ·rw[he,cond_false,bK]at hb
    exact hb
def KG{s:ae}{B2:Nat}{l:List aa}{k:Nat}{s':ae}(hs0:s B2=none)(hk:k<2^36)(hch:(jx l k).length=2)(h:FL s B2 l k s'):
 Ua prog (Pj wy) ⟨[(4,.ref B2 0),(5,q8 (jx l k))],[],s'⟩ fun E'=>FL s B2 l (k+1) E'.s:=by
 have bP:room=140737488355328:=rfl
 obtain⟨s1,r,h1,h2,h3,rfl⟩:=h
 have hB:kc s1 r (fE l k) B2=some (.cells [jG r k]):=oR h3 h1
 have hkl:(fE l k).length=k:=zJ l k
 generalize dQ:kc s1 r (fE l k)=st at hB
 rw[wy]
 refine Xh4 ?_
 rw[Pj]
 unfold q8
 refine Xh5 hB ?_
 rw[pL]
 have fin:=FW (σ:=?_) (d:=?_) (K:=?_) (by':=24) (s:=s1) (r:=r) (l:=fE l k) (z:=([]:VL)) (v:=(jx l k:VL)) (sz:=1) ?_ h3 rfl (by rw[hkl];omega) ?_
 ·rw[hkl]at fin
  exact fin
 ·exact dQ.symm
 ·intro s2 r' g1 g2
  have hB2:s2 B2=some (.cells [jG r k]):=g1 _ _ h1
  have hB3:kc s2 r' (fE l k++[jx l k]) B2=some (.cells [jG r k]):=oR g2 hB2
  rw[hkl]
  generalize Ph:kc s2 r' (fE l k++[jx l k])=st2 at hB3
  refine Xh5 hB3 ?_
  obtain⟨q1,q2⟩:=QD (o':=.cells [jG r' (k+1)]) g2 hB2
  refine⟨s2.set B2 (.cells [jG r' (k+1)]),r',gq ..,fun b o hb=>?_,?_,?_⟩
  ·have hne:b≠B2:=fun e=>by subst e;rw[hs0]at hb;cases hb
   rw[aj hne]
   exact g1 _ _ (h2 _ _ hb)
  ·rw[rq];exact q2
  ·rw[rq,<-Ph];exact q1
def Nd{l:List aa}{r:List aa×Int}{s:ae}(hl0:0<l.length)(h:iJ l=some r):FE prog 159 [q8 l] s [.sl false 4 r.1.length (flat r.1),.int .i64 r.2] s:=by
 have bP:room=140737488355328:=rfl
 unfold iJ at h
 obtain⟨⟨ag7,hl2⟩,h⟩:=PN h
 obtain⟨K,hK⟩:∃K,l.length=2*K:=⟨l.length/2,AT⟩
 have hK2:l.length/2=K:=AT
 rw[hK2]at h
 have jR:∀c∈fE l K,0<c.length:=fun c hc=>by
  unfold fE at hc
  obtain⟨k,hk,rfl⟩:=List.mem_map.1 hc
  rw[ou l k (by have:=List.mem_range.1 hk;omega)];decide
 have aaI:∀k,2*k<=l.length->(fE l k).flatten.length=2*k:=fun k=>by
  induction k with
  |zero=>intro _;rfl
  |succ k ih=>
   intro hk
   rw[rq,List.flatten_append,List.length_append,ih AT]
   simp[ou l k AT]
   omega
 have OZ:(fE l K).length=K:=zJ l K
 refine FN.Hv ?_
 intro G w vs hg ho hs ha
 have hI:=qR (n:=40) hg hs ha W_ (show 1<=40 by decide)
 refine callsIn_wide.1 (callsIn_of_wp_marks (n:=3) Go.Proofs.Tryz.func159 CJ trivial ?_ rfl)
 rw[Jc]
 have mixed:=mix
 refine piece (kO mix) CK hI (aR.refl G w) (fun E'=>E'=⟨[(0,q8 l)],[],s⟩) ?_ ?_
 ·rw[wu];(conv in dec _=>reduce);unfold q8
  exact Xh3
 rintro G1 σ1 a1 w1 hI1 hp1 rfl
 refine piece (kO mix) CL hI1 hp1 (fun E'=>∃B2,s B2=none/\E'=⟨[(0,q8 l),(4,.ref B2 0)],[],s.set B2 (.cells [.arr 0 0 0 0])⟩) ?_ ?_
 ·rw[wv];(conv in dec _=>reduce);unfold q8
  refine Xh2 ?_
  intro B2 hB2
  exact⟨B2,hB2,rfl⟩
 rintro G2 σ2 a2 w2 hI2 hp2 ⟨B2,hB2,rfl⟩
 refine wpIn_seq (piece (kO mix) CM hI2 hp2 (fun E'=>∃Bs,(s.set B2 (.cells [.arr 0 0 0 0])) Bs=none/\∃Bn,((s.set B2 (.cells [.arr 0 0 0 0])).set Bs (.cells [q8 l])) Bn=none/\
  E'=⟨[(4,.ref B2 0),(8,.fn 260 [] [.ref Bs 0,.ref Bn 0])],[],((s.set B2 (.cells [.arr 0 0 0 0])).set Bs (.cells [q8 l])).set Bn (.cells [.int .i64 2])⟩) ?_ ?_)
 ·rw[wx];(conv in dec _=>reduce);unfold q8
  refine Xh2 ?_
  refine HU fun Bs h1 Bn h2=>?_
  refine Xh2 ?_
  exact⟨Bs,h1,Bn,h2,rfl⟩
 rintro G3 σ3 a3 w3 hI3 hp3 ⟨Bs,hBs,Bn,hBn,rfl⟩
 have n1:=hBs
 rw[jq]at n1
 have n2:=hBn
 rw[jq]at n2
 have n3:=n2.2
 rw[jq]at n3
 have hsz:=hI3.size
 have e8:a3.tmps[8]? =some (a3.eval (.tmp 8)):=gB z_
 have e4:a3.tmps[4]? =some (a3.eval (.tmp 4)):=gB z_
 have v8:VR w3 G3.R (.fn 260 [] [.ref Bs 0,.ref Bn 0]) (a3.eval (.tmp 8)):=(hI3.da 8 _ e8).1
 have v4:VR w3 G3.R (.ref B2 0) (a3.eval (.tmp 4)):=(hI3.da 4 _ e4).1
 obtain⟨vf,vc,hv8,hvf,_,hvc,Gr⟩:=VR.Po v8
 obtain rfl:vf= #[]:=Array.eq_empty_of_size_eq_zero hvf
 obtain rfl:vc= #[.pointer (some ⟨Bs,0,none⟩),.pointer (some ⟨Bn,0,none⟩)]:=by
  obtain⟨vl⟩:=vc
  match vl,hvc,Gr with
  |[x,y],_,Gr=>rw[VR.gK (Gr 0 _ x rfl rfl),VR.gK (Gr 1 _ y rfl rfl)]
 have hBx:(((s.set B2 (.cells [.arr 0 0 0 0])).set Bs (.cells [q8 l])).set Bn (.cells [.int .i64 2])) Bs=some (.cells [q8 l]):=by rw[aj n2.1.symm,gq]
 have hBy:(((s.set B2 (.cells [.arr 0 0 0 0])).set Bs (.cells [q8 l])).set Bn (.cells [.int .i64 2])) Bn=some (.cells [.int .i64 2]):=gq ..
 obtain⟨hOs,_,cs,ts,hhs,⟨WB,WC⟩,_⟩:=hI3.store Bs _ hBx
 obtain⟨hOn,_,cn,tn,hhn,⟨Wy,Wz⟩,_⟩:=hI3.store Bn _ hBy
 obtain⟨x,rfl⟩:∃x,cs= #[x]:=by
  obtain⟨cl⟩:=cs
  match cl,WB with
  |[x],_=>exact⟨x,rfl⟩
 obtain⟨y,rfl⟩:∃y,cn= #[y]:=by
  obtain⟨cl⟩:=cn
  match cl,Wy with
  |[x],_=>exact⟨x,rfl⟩
 have hx:VR w3 G3.R (q8 l) x:=(WC 0 _ x rfl rfl).1
 have hy:y=.int .i64 2:=VR.dI (Wz 0 _ y rfl rfl).1
 subst hy
 unfold q8 at hx
 rcases VR.jd hx with⟨_,he,_⟩|⟨b,off,cap,rfl,hlen,hRb,gv,hat⟩
 ·exact absurd he AT
 refine wpIn_block ?_
 rw[Uv,N9]
 let tA:Nat->Array Value:=fun k=>a3.tmps.setIfInBounds 9 (fM b off k)
 have O8:∀k,((#[9]:Array Tmp).zip #[fM b off k]).foldl (fun t(p,v)=>t.setIfInBounds p v) a3.tmps=tA k:=fun k=>by simp[tA]
 have hav:∀k,k<K->VR w3 G3.R (q8 (jx l k)) (fM b off k):=fun k hk=>Oi hRb hat AT
 refine Vy hI3 hv8 (fun args w=>mh Go.Proofs.Tryz.func260 C_ C_ args) (K:=K) (mq:=fM b off) (avs:=fun k=>q8 (jx l k)) (S:=FL s B2 l) [Bs,Bn] ?_ hav ?_ (fun k=>({tmps:=tA k,defers:=[]}:Act).put (some 5) (fM b off k)) ?_ ?_ ?_ ?_
 ·intro b' hb'
  simp only[List.mem_cons,List.not_mem_nil,or_false]at hb'
  rcases hb' with rfl|rfl
  ·exact nj.2 hOs
  ·exact nj.2 hOn
 ·refine⟨_,none,?_,fun b' o hb'=>?_,rfl,rfl⟩
  ·show(if B2∈[Bs,Bn]then none else(((s.set B2 (.cells [.arr 0 0 0 0])).set Bs (.cells [q8 l])).set Bn (.cells [.int .i64 2])) B2)=_
   rw[if_neg (by simp only[List.mem_cons,List.not_mem_nil,or_false,not_or];exact⟨n1.1.symm,n3.1.symm⟩),aj n3.1.symm,aj n1.1.symm,gq]
   rfl
  ·have e1:b'≠B2:=fun e=>by subst e;rw[hB2]at hb';cases hb'
   have e2:b'≠Bs:=fun e=>by subst e;rw[n1.2]at hb';cases hb'
   have e3:b'≠Bn:=fun e=>by subst e;rw[n3.2]at hb';cases hb'
   show(if b'∈[Bs,Bn]then none else(((s.set B2 (.cells [.arr 0 0 0 0])).set Bs (.cells [q8 l])).set Bn (.cells [.int .i64 2])) b')=_
   rw[if_neg (by simp only[List.mem_cons,List.not_mem_nil,or_false,not_or];exact⟨e2,e3⟩),aj e3,aj e2,aj e1]
   exact hb'
 ·intro lo J W hbx hdr hY h0
  have c1:w3.cell? ⟨Bs,0,none⟩=some (.slice (some ⟨b,off,none⟩) (2*K) cap):=by rw[<-hK];simp[World.cell?,hhs]
  have c2:w3.cell? ⟨Bn,0,none⟩=some (.int .i64 2):=by simp[World.cell?,hhn]
  exact MD (lo:=lo) (Bs:=Bs) (Bn:=Bn) (b:=b) (off:=off) (K:=K) (cap:=cap) AT AT (fun k W h=>⟨(World.cell?_of_block (hbx k W h Bs B_)).trans c1,(World.cell?_of_block (hbx k W h Bn B_)).trans c2⟩) hdr hY h0
 ·intro lo k W K' hk
  rw[O8]
  have hev:({tmps:=tA k,defers:=[]}:Act).eval (.tmp 9)=fM b off k:=by
   show(a3.tmps.setIfInBounds 9 (fM b off k)).getD 9 undef=_
   rw[Array.getD_eq_getD_getElem?,Array.getElem?_setIfInBounds_self_of_lt z_]
   rfl
  refine wpIn_region_list (wpListIn_plain rfl fun K2 hK2=>⟨fun _ _=>trivial,?_⟩)
  rw[<-hev]at hk
  exact hK2 _ _ hk
 ·intro k hk lo G' W s' g1 g2 g3 hS hv R hR
  refine QC KH Jb (Sy (n:=40) (i:=4) (j:=5) (x:=.ref B2 0) (y:=q8 (jx l k)) (t:=(tA k).setIfInBounds 5 (fM b off k)) BY BY BY g1 g3 ?_ ⟨rfl,rfl⟩ ⟨rfl,rfl⟩ ?_ ?_) (KG hB2 AT (ou l k AT) hS) hR
  ·show((a3.tmps.setIfInBounds 9 _).setIfInBounds 5 _).size=_
   rw[Array.size_setIfInBounds,Array.size_setIfInBounds,hsz]
  ·intro v hv4
   have hv4:((a3.tmps.setIfInBounds 9 (fM b off k)).setIfInBounds 5 (fM b off k))[4]? =some v:=hv4
   rw[Array.getElem?_setIfInBounds_ne BY,Array.getElem?_setIfInBounds_ne BY,e4,VR.gK v4]at hv4
   injection hv4 with hv4
   rw[<-hv4]
   exact .ref _ _
  ·intro v hv5
   have hv5:((a3.tmps.setIfInBounds 9 (fM b off k)).setIfInBounds 5 (fM b off k))[5]? =some v:=hv5
   rw[Array.getElem?_setIfInBounds_self_of_lt (by rw[Array.size_setIfInBounds,hsz];decide)]at hv5
   injection hv5 with hv5
   rw[<-hv5]
   exact hv
 ·intro G4 W4 s4 hS hI4 hp4 aeO
  obtain⟨s1,r1,h1,h2,h3,rfl⟩:=hS
  obtain⟨rb,agS,sp,rfl⟩:=QF h3 (by rw[OZ];omega)
  have hlt:w3.heap.size<(w3.alloc (.deferred (some []))).heap.size:=by rw[World.size_alloc];omega
  refine last (kO mix) CN (hI4.xJ [4]) hp4 (yn iM fun rs s''=>∃s2,Sub s2 s''/\(rs=[.sl false 4 r.1.length (flat r.1),.int .i64 r.2]/\s2=s)) ?_ ?_
  ·refine Je (s:=s) (by rw[OZ];exact h1) h3.1 h2 (by rw[OZ];omega) jR (by rw[aaI K AT];omega) (fun e s' hs'=>?_) (fun e s' hs'=>?_)
   ·rw[e,cond_true]at h
    cases h
    exact⟨s,hs',rfl,rfl⟩
   ·rw[e,cond_false]at h
    cases h
    exact⟨s,hs',rfl,rfl⟩
  ·intro x G5 E' a' W5 k1 k2 k3
   have m6:∀(dY:rl (lA E' iM)=true)(hq:∃s2,Sub s2 E'.s/\(lA E' iM=[.sl false 4 r.1.length (flat r.1),.int .i64 r.2]/\s2=s)),_:=fun dY hq=>Jq (Q:=fun rs s''=>∃s2,Sub s2 s''/\(rs=[.sl false 4 r.1.length (flat r.1),.int .i64 r.2]/\s2=s)) Fh k1 ((hp3.trans (gE hI3.bF _ .frame 0).2.1).trans k2) (k2.kq _ hlt B_).1 ((k2.kq _ hlt B_).2.trans B_) ((k2.frame _ hlt (.inl B_)).trans (World.alloc_heap_new w3 _)) hp3.size dY hq
   cases x with
   |ret=>exact m6 k3.1 k3.2
   |normal=>exact m6 k3.1 k3.2
   |_=>exact k3.elim
def JZ{s:ae}{Q:List AV->ae->Prop}(hq:∀s' r',Sub s s'->iR s' r' ([]:List aa)->Q [jG r' 0] (kc s' r' ([]:List aa))):FN prog 215 [.arr 0 0 0 0] s Q:=by
 have bP:room=140737488355328:=rfl
 refine FO EZ rfl rfl ?_
 rw[y0]
 refine Xh4 ?_
 have h1:decide ((0:Int)<0)=false:=rfl
 refine Xh2 ?_
 refine ik 0 (fun _ τ=>τ=(⟨[(0,.arr 0 0 0 0),(3,.int .i64 0),(9,.arr 0 0 0 0),(10,.int .i64 0),(11,.int .i64 0)],[],s⟩:St)) BY rfl (fun k hk=>AT) ?_
 rintro J τ rfl
 refine Xh6 h1 ?_
 refine Ly (k:=0) AT fun s1 r1 hs1 hr1=>?_
 refine Xh8 ?_
 refine ik 0 (fun _ τ=>τ=(⟨[(6,jG r1 0),(25,.arr 0 0 0 0),(26,.int .i64 0),(27,.int .i64 0)],[],kc s1 r1 ([]:List aa)⟩:St)) BY ?_ (fun k hk=>AT) ?_
 ·first|rfl|trace_state
 rintro J τ rfl
 refine Xh6 h1 ?_
 exact hq s1 r1 hs1 hr1
def Jd{s s1:ae}{B2:Nat}{Q:List AV->ae->Prop}(hB:s1 B2=some (.cells [.arr 0 0 0 0]))(hs:Sub s s1)(q0:∀s',Sub s s'->Q [.sl false 4 0 [],.int .i64 0] s'):
 gx prog oD (yn iM Q) ⟨[(4,.ref B2 0)],[],s1⟩:=by
 rw[oD,iM]
 refine Xh4 ?_
 have h1:decide ((1:Int)<0)=false:=rfl
 refine Xh5 hB ?_
 refine QJ ?_
 refine Xh8 ?_
 refine ik 0 (fun _ τ=>τ=(⟨[(4,.ref B2 0),(6,.int .i64 1)],[],s1⟩:St)) BY rfl (fun k hk=>AT) ?_
 rintro J τ rfl
 refine Xi2 hB h1 ?_
 refine JZ fun s' r' hs' hr'=>?_
 refine Xh8 ?_
 refine Lv rfl hr' rfl ?_
 refine Xh8 ?_
 exact q0 s' fun b o h=>hs' b o (hs b o h)
end Go.AB
end
section
set_option maxRecDepth 4000
namespace Go.AB
open Go Go.Proofs Go.RowKit
open Go.Proofs.Tryz (prog)
attribute[local go_sem] Oper.semAt_some
set_option maxHeartbeats 2000000 in
def MC{lo Bs Bn cap:Nat}{pt:Option Addr}{J:World->Prop}{W:World}(Se:∀W,J W->W.cell? ⟨Bs,0,none⟩=some (.slice pt 0 cap)/\W.cell? ⟨Bn,0,none⟩=some (.int .i64 2))(hd:∀W,J W->J W.drew)(h0:J W):
 CallsIn Fence.wide 2 prog 260 #[.func (.yield lo) #[] #[],.pointer (some ⟨Bs,0,none⟩),.pointer (some ⟨Bn,0,none⟩)] W fun e W'=>(∃v,e=.returned v)/\J W':=by
 have mixed:=mix
 refine callsIn_of_wp Go.Proofs.Tryz.func260 rfl trivial ?_ rfl
 simp only[show Go.Proofs.Tryz.f260.ntmps=31 from rfl,List.size_toArray,List.length_cons,List.length_nil,Nat.reduceAdd,Nat.reduceSub,Array.replicate_succ,Array.replicate_zero,List.push_toArray,List.append_toArray,List.nil_append,List.cons_append]
 gi_wp2
 gi_loopw [4] (fun i wr=>i=.int .i64 0/\J wr) (fun _ _=>0)
 case atStart=>exact⟨rfl,h0⟩
 case round=>
  obtain⟨rfl,hJ⟩:=hrel
  obtain⟨hb1,hb2⟩:=Se _ hJ
  gi_wp2
  go_end0
  exact⟨⟨_,rfl⟩,hJ⟩
end Go.AB
end
section
set_option maxRecDepth 4000
namespace Go.AB
open Go
open Go.Proofs.Tryz (prog)
attribute[-go_sem] Nat.add_zero rE dE cL dm cg cK
def Nc{s:ae}:FE prog 159 [q8 []] s [.sl false 4 0 [],.int .i64 0] s:=by
 have bP:room=140737488355328:=rfl
 refine FN.Hv ?_
 intro G w vs hg ho hs ha
 have hI:=qR (n:=40) hg hs ha W_ (show 1<=40 by decide)
 refine callsIn_wide.1 (callsIn_of_wp_marks (n:=3) Go.Proofs.Tryz.func159 CJ trivial ?_ rfl)
 rw[Jc]
 have mixed:=mix
 refine piece (kO mix) CK hI (aR.refl G w) (fun E'=>E'=⟨[(0,q8 [])],[],s⟩) ?_ ?_
 ·rw[wu];(conv in dec _=>reduce);unfold q8
  exact Xh3
 rintro G1 σ1 a1 w1 hI1 hp1 rfl
 refine piece (kO mix) CL hI1 hp1 (fun E'=>∃B2,s B2=none/\E'=⟨[(0,q8 []),(4,.ref B2 0)],[],s.set B2 (.cells [.arr 0 0 0 0])⟩) ?_ ?_
 ·rw[wv];(conv in dec _=>reduce);unfold q8
  refine Xh2 ?_
  intro B2 hB2
  exact⟨B2,hB2,rfl⟩
 rintro G2 σ2 a2 w2 hI2 hp2 ⟨B2,hB2,rfl⟩
 refine wpIn_seq (piece (kO mix) CM hI2 hp2 (fun E'=>∃Bs,(s.set B2 (.cells [.arr 0 0 0 0])) Bs=none/\∃Bn,((s.set B2 (.cells [.arr 0 0 0 0])).set Bs (.cells [q8 []])) Bn=none/\
  E'=⟨[(4,.ref B2 0),(8,.fn 260 [] [.ref Bs 0,.ref Bn 0])],[],((s.set B2 (.cells [.arr 0 0 0 0])).set Bs (.cells [q8 []])).set Bn (.cells [.int .i64 2])⟩) ?_ ?_)
 ·rw[wx];(conv in dec _=>reduce);unfold q8
  refine Xh2 ?_
  refine HU (l:=[]) fun Bs h1 Bn h2=>?_
  refine Xh2 ?_
  exact⟨Bs,h1,Bn,h2,rfl⟩
 rintro G3 σ3 a3 w3 hI3 hp3 ⟨Bs,hBs,Bn,hBn,rfl⟩
 have n1:=hBs
 rw[jq]at n1
 have n2:=hBn
 rw[jq]at n2
 have n3:=n2.2
 rw[jq]at n3
 have hsz:=hI3.size
 have e8:a3.tmps[8]? =some (a3.eval (.tmp 8)):=gB z_
 have e4:a3.tmps[4]? =some (a3.eval (.tmp 4)):=gB z_
 have v8:VR w3 G3.R (.fn 260 [] [.ref Bs 0,.ref Bn 0]) (a3.eval (.tmp 8)):=(hI3.da 8 _ e8).1
 have v4:VR w3 G3.R (.ref B2 0) (a3.eval (.tmp 4)):=(hI3.da 4 _ e4).1
 obtain⟨vf,vc,hv8,hvf,_,hvc,Gr⟩:=VR.Po v8
 obtain rfl:vf= #[]:=Array.eq_empty_of_size_eq_zero hvf
 obtain rfl:vc= #[.pointer (some ⟨Bs,0,none⟩),.pointer (some ⟨Bn,0,none⟩)]:=by
  obtain⟨vl⟩:=vc
  match vl,hvc,Gr with
  |[x,y],_,Gr=>rw[VR.gK (Gr 0 _ x rfl rfl),VR.gK (Gr 1 _ y rfl rfl)]
 have hBx:(((s.set B2 (.cells [.arr 0 0 0 0])).set Bs (.cells [q8 []])).set Bn (.cells [.int .i64 2])) Bs=some (.cells [q8 []]):=by rw[aj n2.1.symm,gq]
 have hBy:(((s.set B2 (.cells [.arr 0 0 0 0])).set Bs (.cells [q8 []])).set Bn (.cells [.int .i64 2])) Bn=some (.cells [.int .i64 2]):=gq ..
 obtain⟨hOs,_,cs,ts,hhs,⟨WB,WC⟩,_⟩:=hI3.store Bs _ hBx
 obtain⟨hOn,_,cn,tn,hhn,⟨Wy,Wz⟩,_⟩:=hI3.store Bn _ hBy
 obtain⟨x,rfl⟩:∃x,cs= #[x]:=by
  obtain⟨cl⟩:=cs
  match cl,WB with
  |[x],_=>exact⟨x,rfl⟩
 obtain⟨y,rfl⟩:∃y,cn= #[y]:=by
  obtain⟨cl⟩:=cn
  match cl,Wy with
  |[x],_=>exact⟨x,rfl⟩
 have hx:VR w3 G3.R (q8 []) x:=(WC 0 _ x rfl rfl).1
 have hy:y=.int .i64 2:=VR.dI (Wz 0 _ y rfl rfl).1
 subst hy
 unfold q8 at hx
 obtain⟨pt,cap,rfl⟩:∃pt cap,x=.slice pt 0 cap:=by
  rcases VR.jd hx with⟨he,_,_⟩|⟨b,off,cap,rfl,_,_,_,_⟩
  ·exact he.ex
  ·exact⟨_,_,rfl⟩
 have O8:((#[9]:Array Tmp).zip #[undef]).foldl (fun t(p,v)=>t.setIfInBounds p v) a3.tmps=a3.tmps.setIfInBounds 9 undef:=B_
 refine wpIn_block ?_
 rw[Uv,N9]
 refine Vy hI3 hv8 (fun args w=>mh Go.Proofs.Tryz.func260 C_ C_ args) (K:=0) (mq:=fun _=>undef) (avs:=fun _=>.undef) (S:=fun _ s'=>s' B2=some (.cells [.arr 0 0 0 0])/\Sub s s') [Bs,Bn] ?_ (fun k hk=>AT) ?_ (fun k=>({tmps:=a3.tmps.setIfInBounds 9 undef,defers:=[]}:Act).put (some 5) undef) ?_ ?_ (fun k hk=>AT) ?_
 ·intro b' hb'
  simp only[List.mem_cons,List.not_mem_nil,or_false]at hb'
  rcases hb' with rfl|rfl
  ·exact nj.2 hOs
  ·exact nj.2 hOn
 ·refine⟨?_,fun b' o hb'=>?_⟩
  ·show(if B2∈[Bs,Bn]then none else(((s.set B2 (.cells [.arr 0 0 0 0])).set Bs (.cells [q8 []])).set Bn (.cells [.int .i64 2])) B2)=_
   rw[if_neg (by simp only[List.mem_cons,List.not_mem_nil,or_false,not_or];exact⟨n1.1.symm,n3.1.symm⟩),aj n3.1.symm,aj n1.1.symm,gq]
  ·have e1:b'≠B2:=fun e=>by subst e;rw[hB2]at hb';cases hb'
   have e2:b'≠Bs:=fun e=>by subst e;rw[n1.2]at hb';cases hb'
   have e3:b'≠Bn:=fun e=>by subst e;rw[n3.2]at hb';cases hb'
   show(if b'∈[Bs,Bn]then none else(((s.set B2 (.cells [.arr 0 0 0 0])).set Bs (.cells [q8 []])).set Bn (.cells [.int .i64 2])) b')=_
   rw[if_neg (by simp only[List.mem_cons,List.not_mem_nil,or_false,not_or];exact⟨e2,e3⟩),aj e3,aj e2,aj e1]
   exact hb'
 ·intro lo J W hbx hdr hY h0
  have c1:w3.cell? ⟨Bs,0,none⟩=some (.slice pt 0 cap):=by simp[World.cell?,hhs]
  have c2:w3.cell? ⟨Bn,0,none⟩=some (.int .i64 2):=by simp[World.cell?,hhn]
  exact MC (lo:=lo) (Bs:=Bs) (Bn:=Bn) (J:=J 0) (fun W h=>⟨(World.cell?_of_block (hbx 0 W h Bs B_)).trans c1,(World.cell?_of_block (hbx 0 W h Bn B_)).trans c2⟩) (fun W h=>hdr 0 W h) h0
 ·intro lo k W K' hk
  rw[O8]
  have hev:({tmps:=a3.tmps.setIfInBounds 9 undef,defers:=[]}:Act).eval (.tmp 9)=undef:=by
   show(a3.tmps.setIfInBounds 9 (undef)).getD 9 undef=_
   rw[Array.getD_eq_getD_getElem?,Array.getElem?_setIfInBounds_self_of_lt z_]
   rfl
  refine wpIn_region_list (wpListIn_plain rfl fun K2 hK2=>⟨fun _ _=>trivial,?_⟩)
  have hk2:K' (({tmps:=a3.tmps.setIfInBounds 9 undef,defers:=[]}:Act).put (some 5) (({tmps:=a3.tmps.setIfInBounds 9 undef,defers:=[]}:Act).eval (.tmp 9))) W:=by rw[hev];exact hk
  exact hK2 _ _ hk2
 ·intro G4 W4 s4 hS hI4 hp4 aeO
  obtain⟨h1,h2⟩:=hS
  have hlt:w3.heap.size<(w3.alloc (.deferred (some []))).heap.size:=by rw[World.size_alloc];omega
  refine last (kO mix) CN (hI4.xJ [4]) hp4 (yn iM fun rs s''=>∃s2,Sub s2 s''/\(rs=[.sl false 4 0 [],.int .i64 0]/\s2=s)) ?_ ?_
  ·exact Jd (s:=s) h1 h2 fun s' hs'=>⟨s,hs',rfl,rfl⟩
  ·intro x G5 E' a' W5 k1 k2 k3
   have m6:∀(dY:rl (lA E' iM)=true)(hq:∃s2,Sub s2 E'.s/\(lA E' iM=[.sl false 4 0 [],.int .i64 0]/\s2=s)),_:=fun dY hq=>Jq (Q:=fun rs s''=>∃s2,Sub s2 s''/\(rs=[.sl false 4 0 [],.int .i64 0]/\s2=s)) Fh k1 ((hp3.trans (gE hI3.bF _ .frame 0).2.1).trans k2) (k2.kq _ hlt B_).1 ((k2.kq _ hlt B_).2.trans B_) ((k2.frame _ hlt (.inl B_)).trans (World.alloc_heap_new w3 _)) hp3.size dY hq
   cases x with
   |ret=>exact m6 k3.1 k3.2
   |normal=>exact m6 k3.1 k3.2
   |_=>exact k3.elim
end Go.AB
end
section
namespace Go.AB
open Go
open Go.Proofs.Tryz (prog)
def Qd:wW iJ:=fun s l r h=>by
 cases l with
 |nil=>
  have e:iJ []=some ([],0):=rfl
  rw[e]at h;cases h
  exact Nc
 |cons x l=>exact Nd B_ h
def pC(b:List UInt8)(a:Int)(last:Bool):Option (aa×Int×Int):=rU iJ b a last
def CO{b:List UInt8}{a:Int}{last:Bool}{s:ae}{r:aa×Int×Int}(h:pC b a last=some r):FE prog 34 [.sl false 1 b.length (flat b),.int .i64 a,.bool last] s
 [.agg [.int .i64 r.1.Kind,.int .i64 r.1.N,.str r.1.S.b,.sl false 4 r.1.L.length (flat r.1.L)],.int .i64 r.2.1,.int .i64 r.2.2] s:=
 FN.Hv (Q9 Qd ⟨r,h,fun s' hs=>⟨s,hs,rfl,rfl⟩⟩)
end Go.AB
end
section
end
section
set_option maxRecDepth 16000
namespace Go.AB
open Go
open Go.Proofs.Tryz (prog)
attribute[-go_sem] cL dm cg cK
structure cq where
 b_:(List UInt8)
 at_:Int
 a9:Bool
instance:bz cq:=⟨3,fun x=>[sF 1 x.b_,.int .i64 x.at_,.bool x.a9],(cq.mk [] 0 false),BY,fun _=>rfl,fun _=>rfl⟩
structure ay where
 aG:cq
 e_:Int
instance:bz ay:=⟨4,fun x=>[sF 1 x.aG.b_,.int .i64 x.aG.at_,.bool x.aG.a9,.int .i64 x.e_],(ay.mk (cq.mk [] 0 false) 0),BY,fun _=>rfl,fun _=>rfl⟩
@[go_sem]abbrev BJ(x:ay):List AV:=[sF 1 x.aG.b_,.int .i64 x.aG.at_,.bool x.aG.a9,.int .i64 x.e_]
def aY(r_0:ay)(e_1:Int):Option (ay):=
 if r_0.e_==0 then
  some (ay.mk r_0.aG e_1)
 else
  some r_0
def dt{r_0 e_1}{B0:Nat}{s:ae}{Q:List AV->ae->Prop}(hB0:s B0=some (.cells (BJ r_0))):ok (aY r_0 e_1) (fun r=>Q [] (s.set B0 (.cells (BJ r))))->FN prog 36 [.ref B0 0,.int .i64 e_1] s Q:=by
 rw[<-aZ hB0]
 exact FC 13 [] 0x189bdb57b00e5a903755b8efcb9da2151040490aa07b2139453e aY.eq_1
def bw(r_0:ay)(w_1:aC):Option (ay):=
 if r_0.e_ !=0 then
  some r_0
 else
  aL (mH r_0.aG.b_ r_0.aG.at_ r_0.aG.a9 w_1) fun r1=>
  some (ay.mk (cq.mk r_0.aG.b_ r1.1 r_0.aG.a9) r1.2)
def jP{r_0 w_1}{B0:Nat}{s:ae}{Q:List AV->ae->Prop}(hB0:s B0=some (.cells (BJ r_0))):ok (bw r_0 w_1) (fun r=>Q [] (s.set B0 (.cells (BJ r))))->FN prog 15 [.ref B0 0,.str w_1.b] s Q:=by
 rw[<-aZ hB0]
 refine FR 36 [] 0x881e724e8b4cc9e80c3880ce5966b8360d4d79d7baadd21832219e8accbc2086dfeb231f7ced17c2d76671eb2f237ce702a766fd45340169383c2f97025168cd3dcad4c14fce2cd90a82301a06805dbd93640950de978c6753af3a9f1b27cfb3b5b9d50d6a3fc0de0ab2d3321a915fa4542b036f2e bw.eq_1 ?_
 repeat'(first
  |(with_reducible first|exact bG|refine aV ?_ ?_|refine bI ?_|refine au (fun _(h:mH r_0.aG.b_ r_0.aG.at_ r_0.aG.a9 w_1=some _)=>(c6 D3 h:)) (fun r1=>?_))
  |refine Xh2 ?_|exact Xh3)
def bU(r_0:ay)(Gk:Int)(Uf:Int):Option (Int×ay):=
 if r_0.e_ !=0 then
  some (0,r_0)
 else
  aL (fQ r_0.aG.b_ r_0.aG.at_ r_0.aG.a9) fun r1=>
  jn (
   if(r1.2.2==0)&&((decide (r1.1<Gk))||(decide (r1.1>Uf)))then
    some 18
   else
    some r1.2.2) fun(e4:Int)=>
  some (r1.1,(ay.mk (cq.mk r_0.aG.b_ r1.2.1 r_0.aG.a9) e4))
def lX{r_0 Gk Uf}{B0:Nat}{s:ae}{Q:List AV->ae->Prop}(hB0:s B0=some (.cells (BJ r_0))):ok (bU r_0 Gk Uf) (fun r=>Q [.int .i64 r.1] (s.set B0 (.cells (BJ r.2))))->FN prog 14 [.ref B0 0,.int .i64 Gk,.int .i64 Uf] s Q:=by
 rw[<-aZ hB0]
 refine FR 57 [⟨6,true,none⟩] 0x797d639cecd48de7d1497a494913b6ec7637f0a2d23226e4f7353d2ae5c4407b73b9a7b8e9c2ac92064b34bbac545a7b29ef885e1894acb69b921242203ff2d3d2058ce44a75803367f1d8e3040e6e6174e56c2523e4adc2d39e5126efaece591ca492f9cb8f2a222b6ea3424c7b3fb85904710a2d982805c09b43f2b05e131eed4fd4a7681f3170d3317f22c0fd993104481c2743b67b83c79aec2668c7e7b7ffd4ee5bd3e323ef8f5858f037c7568cd4830cca55ebc64023cdff723efc41103f5e8976400c0ba bU.eq_1 ?_
 repeat'(first
  |(with_reducible first|exact bG|refine aV ?_ ?_|refine bI ?_|refine cw (fun _(h:fQ r_0.aG.b_ r_0.aG.at_ r_0.aG.a9=some _)=>(c6 AN h:)) (fun _=>rfl) (fun r1=>?_))
  |((with_reducible refine aS (fun(e4:Int)=>⟨[(0,.ref B0 0),(7,.int .i64 r1.1),(8,.int .i64 r1.2.1),(9,.int .i64 e4)],[],(s.set B0 (.cells (BJ r_0)))⟩) (fun J=>?_) ?_);rotate_left;rintro e4)
  |refine Xh2 ?_|exact Xh3)
def c7(r_0:ay):Option (aa×ay):=
 if r_0.e_ !=0 then
  some ((aa.mk 0 0 (aC.mk []) ([]:List aa)),r_0)
 else
  aL (pC r_0.aG.b_ r_0.aG.at_ r_0.aG.a9) fun r1=>
  some (r1.1,(ay.mk (cq.mk r_0.aG.b_ r1.2.1 r_0.aG.a9) r1.2.2))
def sA{r_0}{B0:Nat}{s:ae}{Q:List AV->ae->Prop}(hB0:s B0=some (.cells (BJ r_0))):ok (c7 r_0) (fun r=>Q [oV r.1] (s.set B0 (.cells (BJ r.2))))->FN prog 16 [.ref B0 0] s Q:=by
 rw[<-aZ hB0]
 refine FR 42 [⟨2,false,some (4,true)⟩] 0x111deafb502c1a2155afe8c0e6dbad375ebf31bad6b47bc799214077fb40a1c1e048ccdedc3d959cc32dcebcd9f65da4b2cecfbaf53d338141360c9dd675bb08af0f910b8c27d334e7408a59fc3215eb5aa29d344170b70f10bb28a4f328fad085f1972619b0a8eb9646e516ada188e674af6e4ffefd9627ce8e205949130de5335ae83e4fe2a448e8505e7a1ea38ab19e23cdff723efa391081421f991eb37e0092753a c7.eq_1 ?_
 repeat'(first
  |with_reducible exact bG
  |((with_reducible refine My ?_ ?_);exact rfl)
  |(with_reducible first|refine aV ?_ ?_|refine bI ?_|refine cw (fun _(h:pC r_0.aG.b_ r_0.aG.at_ r_0.aG.a9=some _)=>CO h) (fun _=>rfl) (fun r1=>?_))
  |refine Xh2 ?_|exact Xh3)
def bZ(r_0:ay):Option (Bool×ay):=
 if r_0.e_ !=0 then
  some (false,r_0)
 else
  aL (eh r_0.aG.b_ r_0.aG.at_ r_0.aG.a9) fun r1=>
  jn (
   if r1.2 !=0 then
    some (ay.mk (cq.mk r_0.aG.b_ r1.1.To r_0.aG.a9) r1.2)
   else
    if r1.1.Kind==0 then
     aL (aY (ay.mk (cq.mk r_0.aG.b_ r1.1.To r_0.aG.a9) r1.2) 10) fun r4=>
     some r4
    else
     if(r1.1.Kind !=6)||((!(r1.1.S.b==(aC.mk [101,110,100,111,98,106]).b))&&(!(r1.1.S.b==(aC.mk [115,116,114,101,97,109]).b)))then
      aL (aY (ay.mk (cq.mk r_0.aG.b_ r1.1.To r_0.aG.a9) r1.2) 18) fun r5=>
      some r5
     else
      some (ay.mk (cq.mk r_0.aG.b_ r1.1.To r_0.aG.a9) r1.2)) fun(o3:ay)=>
  some ((o3.e_==0)&&(r1.1.S.b==(aC.mk [115,116,114,101,97,109]).b),o3)
def qo{r_0}{B0:Nat}{s:ae}{Q:List AV->ae->Prop}(hB0:s B0=some (.cells (BJ r_0))):ok (bZ r_0) (fun r=>Q [.bool r.1] (s.set B0 (.cells (BJ r.2))))->FN prog 17 [.ref B0 0] s Q:=by
 rw[<-aZ hB0]
 refine FR 74 [⟨2,true,none⟩] 0x1f7f7f3fabca7231f275b9510103907cb2250cfa41e40dce40fea326a5ae76d0cbf7e92a25bbf8f222830a54c1de3e5d312da6069cc425137b6dc64e946eda90e9a46000df99d38688e08665bde5d512726adb4d808094650fb1bec7193609e67b3d3d99d470fc0dd237faec32fa61134b1e1dbce78911983456aebf264d1eb3c5452019708c76d63fe45ce8b742516e83ae181803f5545e79280d29fd1bb7659cb0506b73d161090061780cfc67be7afde5d729313ad290608041d182c041988f12b887c6807bc32c3d68c74a51483fc5b214b7d75a4d66bbbcfa06a6fd8bda8a030c370101f3170d3317f22c0fd993104481c2743b67b83c79aec2668c7e7b7ffd4ee5b48c1478396c0a8332b028268419cfba8e8fc23cdff723efa38cfa1b2c824473a bZ.eq_1 ?_
 repeat'(first
  |with_reducible exact bG
  |((with_reducible refine My ?_ ?_);exact rfl)
  |(with_reducible first|refine aV ?_ ?_|refine bI ?_|refine cw (fun _(h:eh r_0.aG.b_ r_0.aG.at_ r_0.aG.a9=some _)=>(c6 lg h:)) (fun _=>rfl) (fun r1=>?_)|refine fun hh=>dt (B0:=B0) DO (aF (show ok (aY (ay.mk (cq.mk r_0.aG.b_ r1.1.To r_0.aG.a9) r1.2) 10) _ from hh) fun r4=>?_)|refine fun hh=>dt (B0:=B0) DO (aF (show ok (aY (ay.mk (cq.mk r_0.aG.b_ r1.1.To r_0.aG.a9) r1.2) 18) _ from hh) fun r5=>?_))
  |((with_reducible refine aS (fun(o3:ay)=>⟨[(0,.ref B0 0),(3,.loc [.int .i64 r1.1.Kind,.int .i64 r1.1.mj,.int .i64 r1.1.To,.int .i64 r1.1.V.Kind,.int .i64 r1.1.V.N,.str r1.1.V.S.b,sF 4 r1.1.V.L,.str r1.1.S.b])],[],(s.set B0 (.cells (BJ o3)))⟩) (fun J=>?_) ?_);rotate_left;rintro o3)
  |refine Xh2 ?_|exact Xh3)
def dD(p_0:cq):Option (Int):=
 if p_0.a9 then
  some 10
 else
  some 6
def u4{p_0}{B0:Nat}{preB0 postB0:List AV}{oB0:Nat}{s:ae}{Q:List AV->ae->Prop}(hB0:s B0=some (.cells (Wi preB0 [sF 1 p_0.b_,.int .i64 p_0.at_,.bool p_0.a9] postB0)))(eB0:preB0.length=oB0):ok (dD p_0) (fun r=>Q [.int .i64 r] s)->FN prog 80 [.ref B0 oB0] s Q:=by
 subst eB0
 rw[<-aZ hB0]
 exact FC 7 [⟨2,true,none⟩] 0x6de8cfafaf9a6b582a0ce164a71a255e1b0801bf84ba1ffcc00473a dD.eq_1
def nB{p_0}{B0:Nat}{preB0 postB0:List AV}{oB0:Nat}{s:ae}{r:Int}(hB0:s B0=some (.cells (Wi preB0 [sF 1 p_0.b_,.int .i64 p_0.at_,.bool p_0.a9] postB0)))(eB0:preB0.length=oB0)(h:dD p_0=some r):FE prog 80 [.ref B0 oB0] s [.int .i64 r] s:=u4 hB0 eB0 ⟨r,h,rfl,rfl⟩
def cH(r_0:ay):Option (ay):=
 jn (
  aI ((decide (r_0.aG.at_<(r_0.aG.b_.length:Int)))=true->0<=r_0.aG.at_/\r_0.aG.at_<r_0.aG.b_.length)<|
  if(decide (r_0.aG.at_<(r_0.aG.b_.length:Int)))&&(((ix r_0.aG.b_ r_0.aG.at_).toNat:Int)==13)then
   some (ay.mk (cq.mk r_0.aG.b_ (ao (r_0.aG.at_+1)) r_0.aG.a9) r_0.e_)
  else
   some r_0) fun(o1:ay)=>
 if o1.e_ !=0 then
  some o1
 else
  if decide (o1.aG.at_>=(o1.aG.b_.length:Int))then
   aL (dD o1.aG) fun r2=>
   aL (aY o1 r2) fun r3=>
   some r3
  else
   aI (0<=o1.aG.at_/\o1.aG.at_<o1.aG.b_.length)<|
   if((ix o1.aG.b_ o1.aG.at_).toNat:Int)!=10 then
    aL (aY o1 18) fun r4=>
    some r4
   else
    some (ay.mk (cq.mk o1.aG.b_ (ao (o1.aG.at_+1)) o1.aG.a9) o1.e_)
def s9{r_0}{B0:Nat}{s:ae}{Q:List AV->ae->Prop}(hB0:s B0=some (.cells (BJ r_0))):ok (cH r_0) (fun r=>Q [] (s.set B0 (.cells (BJ r))))->FN prog 40 [.ref B0 0] s Q:=by
 rw[<-aZ hB0]
 refine FR 88 [] 0xb23511737c999977adaa6df03fe27b223bb4864a4eb53831b3ecd72a67ab269e9ff8bf5f54b7754bcda02a44a50f8c63ff9ac422d2e65b78e86cda66e4b9cda2a529fc253d49bc689ac5f7ea1e7fccd9342b8b9c09bdb1666115ced0f676bb6608576e7adb7fd61fe3f51d1317aa15947d753360ae285eee8cff6b7ffc2309654c451859b1749d73db0a4b5a64e95d753f36c376d7db655351003ada9285c1512a324f6ff0b9cb1f858cb0cec7d6470d8a3509fca58d048e7e652bf71ba946becb2f1ae9b16b4344b81355367216d65e8b6d1b239265ff81f6632cab9477a05d7d7c0ed91f7ec9b9b4f8353f016f9813833a97d10026dec0184c0daeaeb8a6929781268b22d2474f4d7867f5425372c6342445603b55d32c3716430b0e63a80a8acbe6246e2f80903c92a359166c2010 cH.eq_1 ?_
 repeat'(first
  |(with_reducible first|exact bG|refine aV ?_ ?_|refine bI ?_|refine au (fun _(h:dD o1.aG=some _)=>nB (B0:=B0) (preB0:=[]) (postB0:=[.int .i64 o1.e_]) DO IF h) (fun r2=>?_)|refine fun hh=>dt (B0:=B0) DO (aF (show ok (aY o1 r2) _ from hh) fun r3=>?_)|refine fun hh=>dt (B0:=B0) DO (aF (show ok (aY o1 18) _ from hh) fun r4=>?_))
  |((with_reducible refine aS (fun(o1:ay)=>⟨[(0,.ref B0 0)],[],(s.set B0 (.cells (BJ o1)))⟩) (fun J=>?_) ?_);rotate_left;rintro o1)
  |refine Xh2 ?_|exact Xh3)
def cN(r_0:ay)(n_1:Int):Option ((List UInt8)×ay):=
 if r_0.e_ !=0 then
  some (([]:List UInt8),r_0)
 else
  if decide (n_1>ao ((r_0.aG.b_.length:Int) -r_0.aG.at_))then
   aL (dD r_0.aG) fun r1=>
   aL (aY r_0 r1) fun r2=>
   some (([]:List UInt8),r2)
  else
   aI (0<=ao ((ao (r_0.aG.at_+n_1)) -n_1)/\ao ((ao (r_0.aG.at_+n_1)) -n_1)<=ao (r_0.aG.at_+n_1)/\ao (r_0.aG.at_+n_1)<=r_0.aG.b_.length)<|
   some (part r_0.aG.b_ (ao ((ao (r_0.aG.at_+n_1)) -n_1)) (ao (r_0.aG.at_+n_1)),(ay.mk (cq.mk r_0.aG.b_ (ao (r_0.aG.at_+n_1)) r_0.aG.a9) r_0.e_))
def sx{r_0 n_1}{B0:Nat}{s:ae}{Q:List AV->ae->Prop}(hB0:s B0=some (.cells (BJ r_0))):ok (cN r_0 n_1) (fun r=>Q [sF 1 r.1] (s.set B0 (.cells (BJ r.2))))->FN prog 41 [.ref B0 0,.int .i64 n_1] s Q:=by
 rw[<-aZ hB0]
 refine FR 60 [⟨4,false,none⟩] 0x374f7277fd6f25a177e52d88a67992fde3938caae80fe05445edf1014735530be43bbdf42249ec2c0821490e05ef0c3ff6ed247ee0919a91a65e2a5584a4db8eacc553fce0954d94f4cf60f191c09b873ddf7b3890ad867cb16fc6c4b48fedbf83afde86135c7ef029cb2c638a9ed2effd011db0e6e46924043b0bc0af6b3c75c541293430ca030ab58cbe3786218b4cddf0c96a97b5ce3b5369891c21bc8f839caeb1d83d9066efa9586d31a287188b72847bf6086daa4213815cb2730d0f2e3fa cN.eq_1 ?_
 repeat'(first
  |(with_reducible first|exact bG|refine aV ?_ ?_|refine bI ?_|refine au (fun _(h:dD r_0.aG=some _)=>nB (B0:=B0) (preB0:=[]) (postB0:=[.int .i64 r_0.e_]) DO IF h) (fun r1=>?_)|refine fun hh=>dt (B0:=B0) DO (aF (show ok (aY r_0 r1) _ from hh) fun r2=>?_))
  |refine Xh2 ?_|exact Xh3)
def j5(v_0:aa):Option (Bool×Bool):=
 aL (iO v_0 (aC.mk [70,105,108,116,101,114])) fun r1=>
 jn (
  if(r1.1.Kind==6)&&((r1.1.L.length:Int)==1)then
   aI (0<=(0:Int)/\(0:Int)<r1.1.L.length)<|
   some (ix r1.1.L 0)
  else
   some r1.1) fun(f2:aa)=>
 some (r1.2,(!r1.2)||((f2.Kind==5)&&(f2.S.b==(aC.mk [70,108,97,116,101,68,101,99,111,100,101]).b)))
def AF{v_0}:FF 38 [oV v_0] (j5 v_0) fun r=>[.bool r.1,.bool r.2]:=by
 intro s Q
 refine FR 37 [⟨2,true,none⟩,⟨3,true,none⟩] 0x13e04c1068f848b49ff09602be3004d34d343b3084d15163e420d4057e90a81146e5cc66f1a382c3082732a28166ed84efec282b89a610a163a689c3f3308cb68b465da54e6e2906b41e103a04861e00920acf2190f8ac7f5dd08b49a4b8706733a35491f893e5d274c2dea2d7649281169bc84865daf54f4b8a423e2a166da840893b15210e4c7222ba6aa0cab050c43fd0b07efdcd0b833c982c6ea8ec36830399ac j5.eq_1 ?_
 repeat'(first
  |with_reducible refine au (fun _(h:iO v_0 (aC.mk [70,105,108,116,101,114])=some _)=>(c6 se h:)) (fun r1=>?_)
  |((with_reducible refine aS (fun(f2:aa)=>⟨[(4,.loc (ot f2)),(5,.bool r1.2)],[],s⟩) (fun J=>?_) ?_);rotate_left;rintro f2)
  |refine Xh2 ?_|exact Xh3)
def cT(r_0:ay)(v_1:aa):Option (aM×ay):=
 aL (iO v_1 (aC.mk [76,101,110,103,116,104])) fun r1=>
 aL (j5 v_1) fun r2=>
 jn (
  aL (eu (!((((v_1.Kind !=7)||(r1.1.Kind !=2))||(decide (r1.1.N<0)))||(decide (r1.1.N>16777216)))) false (gC v_1 (aC.mk [68,101,99,111,100,101,80,97,114,109,115]))) fun r8=>
  if(((((v_1.Kind !=7)||(r1.1.Kind !=2))||(decide (r1.1.N<0)))||(decide (r1.1.N>16777216)))||r8)||(!r2.2)then
   aL (aY r_0 18) fun r9=>
   some r9
  else
   some r_0) fun(o7:ay)=>
 aL (cH o7) fun r10=>
 aL (cN r10 r1.1.N) fun r11=>
 aL (bw r11.2 (aC.mk [101,110,100,115,116,114,101,97,109])) fun r12=>
 aL (bw r12 (aC.mk [101,110,100,111,98,106])) fun r13=>
 jn (
  if r2.1&&(r13.e_==0)then
   aL (jW r11.1 16777216) fun r18=>
   jn (
    if r18.2.2 !=0 then
     aL (aY r13 18) fun r23=>
     some r23
    else
     some r13) fun(o22:ay)=>
   some (r18.1,o22)
  else
   some (r11.1,r13)) fun((v7,o17):(List UInt8)×ay)=>
 aL (fh v_1 (aC.mk [76,101,110,103,116,104])) fun r24=>
 aL (fh r24 (aC.mk [70,105,108,116,101,114])) fun r25=>
 aL (jb r25 (aC.mk v7)) fun r26=>
 some (r26,o17)
def rD{r_0 v_1}{B0:Nat}{s:ae}{Q:List AV->ae->Prop}(hB0:s B0=some (.cells (BJ r_0))):ok (cT r_0 v_1) (fun r=>Q [.agg (Od r.1)] (s.set B0 (.cells (BJ r.2))))->FN prog 18 [.ref B0 0,oV v_1] s Q:=by
 rw[<-aZ hB0]
 refine FR 86 [⟨4,false,some (6,true)⟩] 0xeb92e8336580110508a2a573fb84bc56943260cddbeafe82488d9251e69bb228d8e08ae2c1231ab2c364288d010cc133146000ff03fc6f83c31ace8839397ba546159dc75f519a7128ea691ba2314149fdb809bb2a086c40f59b9f51bfb75fee3304b7afa427a10ce37bbfdf2c05641297c5cb480f8bbfa40646738f58f49707207f50ba5f225e576514934ab84c47a0941a802611fda5d3c4199017fd33af57db4fd24ea3c0c95778614292f22ded9f6164b532fc0191a48d3dd3585522f6a92e1ad142a39ac21d21418f6cbb842b28f253fec90e5a25f8dcb7ff02e8378159fd659779ba6afcd5dcced415aaef984770d737840e971e513088cb780f313b26679d3e3be14703f988aea42dff3be45e3662221db312be25a1e5798402d2c697c1534e197e42dec487e1b799d035f5256781c019b65aef9b96ff7ad63985e235b27c95ef6b90b6f594da055365fb3c86f950bef4526ae0a80b6f971816d879c058e4da75554333afe25bff27367bc0dff5908236fe47338b7ae0d3d013724c399feb cT.eq_1 ?_
 repeat'(first
  |(with_reducible first|exact bG|refine aV ?_ ?_|refine bI ?_|refine au (fun _(h:iO v_1 (aC.mk [76,101,110,103,116,104])=some _)=>(c6 se h:)) (fun r1=>?_)|refine au (fun _(h:j5 v_1=some _)=>(c6 AF h:)) (fun r2=>?_)|refine cP rfl (fun _(h:gC v_1 (aC.mk [68,101,99,111,100,101,80,97,114,109,115])=some _)=>(c6 nN h:)) (fun _=>rfl) (fun r8=>?_)|refine fun hh=>dt (B0:=B0) DO (aF (show ok (aY r_0 18) _ from hh) fun r9=>?_)|refine fun hh=>s9 (B0:=B0) DO (aF (show ok (cH o7) _ from hh) fun r10=>?_)|refine fun hh=>sx (B0:=B0) DO (aF (show ok (cN r10 r1.1.N) _ from hh) fun r11=>?_)|refine fun hh=>jP (B0:=B0) DO (aF (show ok (bw r11.2 (aC.mk [101,110,100,115,116,114,101,97,109])) _ from hh) fun r12=>?_)|refine fun hh=>jP (B0:=B0) DO (aF (show ok (bw r12 (aC.mk [101,110,100,111,98,106])) _ from hh) fun r13=>?_)|refine au (fun _(h:jW r11.1 16777216=some _)=>DN h) (fun r18=>?_)|refine fun hh=>dt (B0:=B0) DO (aF (show ok (aY r13 18) _ from hh) fun r23=>?_)|refine cw (fun _(h:fh v_1 (aC.mk [76,101,110,103,116,104])=some _)=>vL h) (fun _=>rfl) (fun r24=>?_)|refine cw (fun _(h:fh r24 (aC.mk [70,105,108,116,101,114])=some _)=>vL h) (fun _=>rfl) (fun r25=>?_)|refine cw (fun _(h:jb r25 (aC.mk v7)=some _)=>(c6 sn h:)) (fun _=>rfl) (fun r26=>?_))
  |((with_reducible refine aS (live:=[(0,false),(3,false),(4,false),(5,false),(7,false)]) (fun(o7:ay)=>⟨[(0,.ref B0 0),(3,.loc (ot v_1)),(4,.loc [.int .i64 0,.int .i64 0,.str (aC.mk []).b,.sl true 4 0 [],.bool false,.str (aC.mk []).b]),(5,.loc (ot r1.1)),(7,.bool r2.1)],[],(s.set B0 (.cells (BJ o7)))⟩) (fun J=>?_) ?_);rotate_left;rintro o7)
  |((with_reducible refine aS (live:=[(3,false),(4,false),(10,true)]) (fun(o22:ay)=>⟨[(3,.loc (ot v_1)),(4,.loc [.int .i64 0,.int .i64 0,.str (aC.mk []).b,.sl true 4 0 [],.bool false,.str (aC.mk []).b]),(10,sF 1 r18.1)],[],(s.set B0 (.cells (BJ o22)))⟩) (fun J=>?_) ?_);rotate_left;rintro o22)
  |((with_reducible refine aS (live:=[(3,false),(4,false),(9,true)]) (fun((v7,o17):(List UInt8)×ay)=>⟨[(3,.loc (ot v_1)),(4,.loc [.int .i64 0,.int .i64 0,.str (aC.mk []).b,.sl true 4 0 [],.bool false,.str (aC.mk []).b]),(9,sF 1 v7)],[],(s.set B0 (.cells (BJ o17)))⟩) (fun J=>?_) ?_);rotate_left;rintro⟨v7,o17⟩)
  |refine Xh2 ?_|exact Xh3)
def gI(b_0:(List UInt8))(aQ:Int)(aq:Bool):Option (Int×aM×Int×Int):=
 aL (bU (ay.mk (cq.mk b_0 aQ aq) 0) 1 4096) fun r1=>
 aL (bU r1.2 0 0) fun r2=>
 aL (bw r2.2 (aC.mk [111,98,106])) fun r3=>
 aL (c7 r3) fun r4=>
 aL (jZ r4.1) fun r5=>
 jn (
  aL (bZ r4.2) fun r10=>
  if r10.1 then
   aL (cT r10.2 r5.V) fun r11=>
   some (r11.1,r11.2)
  else
   some (r5,r10.2)) fun((o8,o9):aM×ay)=>
 if o9.e_ !=0 then
  some (0,(aM.mk (aa.mk 0 0 (aC.mk []) ([]:List aa)) false (aC.mk [])),0,o9.e_)
 else
  some (r1.1,o8,o9.aG.at_,0)
def s8{b_0 aQ aq}:FF 6 [sF 1 b_0,.int .i64 aQ,.bool aq] (gI b_0 aQ aq) fun r=>[.int .i64 r.1,.agg (Od r.2.1),.int .i64 r.2.2.1,.int .i64 r.2.2.2]:=by
 intro s Q
 intro h
 refine FN.forget ?_
 refine FP 51 [⟨6,true,none⟩,⟨7,false,some (6,true)⟩,⟨8,true,none⟩,⟨9,true,none⟩] (dec 0x13696e8817f4315817f0145c12266695901ae929cd7b5dbdd38c1ebe674c909433364cb76387a66d88d2e082f8e1d0a2c3479b08bcc6553eb13cd5301bb0353b2c8b8651223826d18a2e716e96309d2326842400b9fb5a5793f6fa4f1cb321f93cbca2addb2c7529580dfac1f658321307962bc23d681e6422b99c22983eb0d398e620b2c5977597fe5fd3b0a52d4d05b6242e3785734895b95d39e36c925cd9000969bbec1fca0861fff9f85cd7a8b9f8f56940c21b8a67b176bace7b42ad476e7c58da660542cd0ec46dcef13f239849c0f08774a3602bd03aeb21f239dc71aeba9bfb31c75d917840222c02e7c5bd7069e809b6f400c1ad) C_ rfl ?_
 revert h
 rw[gI]
 refine Xh4 ?_
 repeat'(first
  |(with_reducible first|exact bG|refine aV ?_ ?_|refine bI ?_|refine fun hh=>lX (B0:=N1) DO (aF (show ok (bU (ay.mk (cq.mk b_0 aQ aq) 0) 1 4096) _ from hh) fun r1=>?_)|refine fun hh=>lX (B0:=N1) DO (aF (show ok (bU r1.2 0 0) _ from hh) fun r2=>?_)|refine fun hh=>jP (B0:=N1) DO (aF (show ok (bw r2.2 (aC.mk [111,98,106])) _ from hh) fun r3=>?_)|refine fun hh=>sA (B0:=N1) DO (aF (show ok (c7 r3) _ from hh) fun r4=>?_)|refine au (fun _(h:jZ r4.1=some _)=>(c6 sm h:)) (fun r5=>?_)|refine fun hh=>qo (B0:=N1) DO (aF (show ok (bZ r4.2) _ from hh) fun r10=>?_)|refine fun hh=>rD (B0:=N1) DO (aF (show ok (cT r10.2 r5.V) _ from hh) fun r11=>?_))
  |((with_reducible refine aS (fun((o8,o9):aM×ay)=>⟨[(7,.loc [.int .i64 0,.int .i64 0,.str (aC.mk []).b,.sl true 4 0 [],.bool false,.str (aC.mk []).b]),(10,.ref N1 0),(11,.int .i64 r1.1),(12,.loc (Od o8))],[],(s.set N1 (.cells (BJ o9)))⟩) (fun J=>?_) ?_);rotate_left;rintro⟨o8,o9⟩)
  |((fail_if_success (have _x:=sN1));with_reducible intro hh N1 hN1;(try simp only[jq]at hN1);have sN1:=hN1;revert hh)
  |with_reducible exact fun hh=>⟨_,qg.set (qg.refl _) v_,hh⟩
  |refine Xh2 ?_|exact Xh3)
end Go.AB
end
section
set_option maxRecDepth 16000
namespace Go.AB
open Go
open Go.Proofs.Tryz (prog)
attribute[-go_sem] Nat.add_zero rE dE
def wP(v_0:aa)(cX:aC)(x_2:aa):Option aa:=none
def Er{v_0:aa}{cX:aC}{x_2:aa}{s:ae}{r:aa}(h:wP v_0 cX x_2=some r):FE prog 30 [oV v_0,.str cX.b,oV x_2] s [oV r] s:=F_
def nX(l_0:(List aa)):Option (aa):=
 jn (
  iter (fun((v3,i4):aa×Int)=>
   if decide (ao (i4+1)<(l_0.length:Int))then
    aI (0<=i4/\i4<l_0.length)<|
    aI (0<=ao (i4+1)/\ao (i4+1)<l_0.length)<|
    aL (wP v3 ((ix l_0 i4).S) (ix l_0 (ao (i4+1)))) fun r7=>
    some (.inl (r7,ao (i4+2)))
   else
    some (.inr v3)) ((aa.mk 7 0 (aC.mk []) ([]:List aa)),0)) fun(v2:aa)=>
 some v2
def A1{l_0}:FF 13 [sF 4 l_0] (nX l_0) fun r=>[oV r]:=by
 intro s Q
 refine FR 26 [⟨2,false,some (4,true)⟩] 0x602177cdab6a533248ed7e68dc53fdd78dc29fe719eacd75b9e4237590ecd34f734ed27b74fa615525d0899273ebbd2aa2c5e4201310771397e129a1081509759579ee6eb5bfe5f4965394424408d3c88b03fd6b1fcd0f66807cec1cda689f78a503aa059dcc47d9416df736924ad86d21cfa16b9fed78fed091826a263c3549f991eb37e0092753a nX.eq_1 ?_
 repeat'(first
  |(with_reducible first|exact bG|refine aV ?_ ?_|refine bI ?_|refine cw (fun _(h:wP v3 ((ix l_0 i4).S) (ix l_0 (ao (i4+1)))=some _)=>Er h) (fun _=>rfl) (fun r7=>?_))
  |((with_reducible refine bk (fun((v3,i4):aa×Int)=>⟨[(0,sF 4 l_0),(2,.loc [.int .i64 0,.int .i64 0,.str (aC.mk []).b,.sl true 4 0 []]),(3,.loc (ot v3)),(4,.int .i64 i4)],[],s⟩) ?_ ?_);(first|exact rfl|simp -implicitDefEqProofs only[go_sem,seval]);rintro J ⟨v3,i4⟩)
  |((with_reducible refine aS (fun(v2:aa)=>⟨[(2,.loc [.int .i64 0,.int .i64 0,.str (aC.mk []).b,.sl true 4 0 []]),(3,.loc (ot v2))],[],s⟩) (fun J=>?_) ?_);rotate_left;rintro v2)
  |refine Xh2 ?_|exact Xh3)
def iU:Option (Bool):=
 aL (lI 7) fun r1=>
 aL (jZ r1) fun r2=>
 aL (pw 5 r2 true) fun r3=>
 aL (gI [53,32,48,32,111,98,106,10,60,60,47,76,101,110,103,116,104,32,50,62,62,10,115,116,114,101,97,109,10,97,98,10,101,110,100,115,116,114,101,97,109,10,101,110,100,111,98,106,10] 0 false) fun r4=>
 aL (eu ((((((((aC.mk r3.1).b==(aC.mk [53,32,48,32,111,98,106,10,55,10,101,110,100,111,98,106,10]).b)&&(r3.2==0))&&(r4.1==5))&&r4.2.1.Stream)&&(r4.2.1.Data.b==(aC.mk [97,98]).b))&&(r4.2.2.1==48))&&(r4.2.2.2==0)) (aa.mk 0 0 (aC.mk []) []) (nX ([]:List aa))) fun r5=>
 aL (eu ((((((((aC.mk r3.1).b==(aC.mk [53,32,48,32,111,98,106,10,55,10,101,110,100,111,98,106,10]).b)&&(r3.2==0))&&(r4.1==5))&&r4.2.1.Stream)&&(r4.2.1.Data.b==(aC.mk [97,98]).b))&&(r4.2.2.1==48))&&(r4.2.2.2==0)) (aM.mk (aa.mk 0 0 (aC.mk []) []) false (aC.mk [])) (jb r5 (aC.mk [97,98]))) fun r6=>
 aL (eu ((((((((aC.mk r3.1).b==(aC.mk [53,32,48,32,111,98,106,10,55,10,101,110,100,111,98,106,10]).b)&&(r3.2==0))&&(r4.1==5))&&r4.2.1.Stream)&&(r4.2.1.Data.b==(aC.mk [97,98]).b))&&(r4.2.2.1==48))&&(r4.2.2.2==0)) false (jT r4.2.1 r6)) fun r7=>
 some (((((((((aC.mk r3.1).b==(aC.mk [53,32,48,32,111,98,106,10,55,10,101,110,100,111,98,106,10]).b)&&(r3.2==0))&&(r4.1==5))&&r4.2.1.Stream)&&(r4.2.1.Data.b==(aC.mk [97,98]).b))&&(r4.2.2.1==48))&&(r4.2.2.2==0))&&r7)
def tB{s:ae}{Q:List AV->ae->Prop}:ok (iU) (fun r=>Q [.bool r] s)->FN prog 5 [] s Q:=by
 refine FR 55 [⟨0,true,none⟩] 0x4652b07202bb6fdec7df569592a1f7e4a0aad6a4860e54159d0f5b3e130f7140db6afb352b922c1f1937fde256e37ad147e89ddff493b97f85dd906289a853522737b7774f78d5799f34354003487b19b26a4867c01e7f4a5f0071f05639eea92a931d1355f51db42e744aa459834ef43a1c6967df180e301b0c1e6e447d474d0a029737548b94bbb879093f33d714bea137ab2aec3f1ab724efed05b2c5b56ed636c93ef8bac07e63cb67e9ee58574fc72f2879f9134511d09c7d84401c9ba5a171b0c2f3c900ecd27359701ec1baa62e1cd2ec7fefb244abaca95bf460e654e7b9d11399742148df516a83e39019c79d151842d0bc4c66efa3fe16fbad663ea4f4d5ad56af275e8c4ed46c1472deb47300a65f773f55a330c4541e646b8701073895a68f5c97b6aa534d6ac93aff1ad54467427e8bd6b13046286265e5d56fee09d571f81abec0791c3f733b142a77471d901bf82fbdaefdbec79075a5372747dabf42a025777ff85b8246845d49f7250ebe650b6b45b6ef992c8d769168724d2ad9ef21c72db695f47840564a7951c952b5bb5bb5bb5bb5bb5bb5bb5bb5bb5bb5bb5bb5bb5bb5bb5bb5bb5bb5bb5bb5bb5bb5bb5bb5bb5bb5bb5bb5bb5bb5bb5bb5bb5bb5bb5bb5bb5bb5bb5bb5bb5bb5bb5bb5bb5bb9d0705b737734887d2ceed85e7f95aa8096449eac528c4c95fc2922a52bdbbe417417640a7a iU.eq_1 ?_
 repeat'(first
  |(with_reducible first|refine au (fun _(h:lI 7=some _)=>(c6 uf h:)) (fun r1=>?_)|refine au (fun _(h:jZ r1=some _)=>(c6 sm h:)) (fun r2=>?_)|refine au (fun _(h:pw 5 r2 true=some _)=>(c6 Ce h:)) (fun r3=>?_)|refine au (fun _(h:gI [53,32,48,32,111,98,106,10,60,60,47,76,101,110,103,116,104,32,50,62,62,10,115,116,114,101,97,109,10,97,98,10,101,110,100,115,116,114,101,97,109,10,101,110,100,111,98,106,10] 0 false=some _)=>(by refine nJ ?_ ((c6 s8 h:));simp -implicitDefEqProofs only[go_sem,seval])) (fun r4=>?_)|refine cP rfl (fun _(h:nX ([]:List aa)=some _)=>(by refine nJ ?_ ((c6 A1 h:));simp -implicitDefEqProofs only[go_sem,seval])) (fun _=>rfl) (fun r5=>?_)|refine cP rfl (fun _(h:jb r5 (aC.mk [97,98])=some _)=>(c6 sn h:)) (fun _=>rfl) (fun r6=>?_)|refine cP rfl (fun _(h:jT r4.2.1 r6=some _)=>(c6 vH h:)) (fun _=>rfl) (fun r7=>?_))
  |refine Xh2 ?_|exact Xh3)
def gL(b_0:(List UInt8))(aQ:Int)(aq:Bool):Option (Bool):=
 if decide ((b_0.length:Int)>400)then
  aL (iU) fun r1=>
  some r1
 else
  aL (gI b_0 aQ aq) fun r2=>
  aL (iW b_0 aQ aq) fun r3=>
  aL (eu (r2.1==r3.1) false (jT r2.2.1 r3.2.1)) fun r4=>
  aL (eu ((((r2.1==r3.1)&&r4)&&(r2.2.2.1==r3.2.2.1))&&(r2.2.2.2==r3.2.2.2)) false (iU)) fun r5=>
  some (((((r2.1==r3.1)&&r4)&&(r2.2.2.1==r3.2.2.1))&&(r2.2.2.2==r3.2.2.2))&&r5)
def tx{b_0 aQ aq}:FF 3 [sF 1 b_0,.int .i64 aQ,.bool aq] (gL b_0 aQ aq) fun r=>[.bool r]:=by
 intro s Q
 refine FR 58 [⟨6,true,none⟩] 0xefb58d22b9157eab5ebef74601a45bec6503ab5c7ed6abb58d9bdea8e14b4c587d6d4fd90a6de492bc055503b28ede890798a2371b6a8103045863af7e942d09b956042807c698344c280b8c8e1c756af870eb736253a146f083bb969abaa5c5a4c15eaa51fb57c1cec0cd166b5d8be297e8c839ebd9c3311de47f76a1d9dcb2b20120da8aafbb91fac822ae32c7b604122674434d255a00e358d9b70a695e740f9674b9620abd14d1d30fac8c1b1398f578a25bf8de8a2ad1caa7aae21ec010981a4c0ba gL.eq_1 ?_
 repeat'(first
  |(with_reducible first|refine aV ?_ ?_|refine bI ?_)
  |((fail_if_success (have _x:=r1));with_reducible refine au (fun _(h:iU=some _)=>(c6 tB h:)) (fun r1=>?_))
  |(with_reducible first|refine au (fun _(h:gI b_0 aQ aq=some _)=>(c6 s8 h:)) (fun r2=>?_)|refine au (fun _(h:iW b_0 aQ aq=some _)=>(c6 Dd h:)) (fun r3=>?_)|refine cP rfl (fun _(h:jT r2.2.1 r3.2.1=some _)=>(c6 vH h:)) (fun _=>rfl) (fun r4=>?_))
  |((fail_if_success (have _x:=r5));with_reducible refine cP rfl (fun _(h:iU=some _)=>(c6 tB h:)) (fun _=>rfl) (fun r5=>?_))
  |refine Xh2 ?_|exact Xh3)
def tv{b_0 aQ aq}{s:ae}{r:Bool}(h:gL b_0 aQ aq=some r):FE prog 3 [sF 1 b_0,.int .i64 aQ,.bool aq] s [.bool r] s:=tx ⟨r,h,rfl,rfl⟩
end Go.AB
end
section
namespace Go.AB
open Go
def pr(s:aC)(v:aa):VL:=[⟨5,0,s,[]⟩,v]
def k7(C:List VL):Prop:=∀c∈C,∃s v,c=pr s v
def nm(c:VL):List UInt8:=(ix c 0).S.b
theorem Ve(s:aC)(v:aa):nm (pr s v)=s.b:=rfl
theorem k7.len:∀{C:List VL},k7 C->C.flatten.length=2*C.length
 |[],_=>rfl
 |c::C,h=>by
  obtain⟨s,v,rfl⟩:=h c B_
  have:=k7.len (C:=C) fun c hc=>h c (by simp[hc])
  rw[List.flatten_cons,List.length_append,this,List.length_cons]
  show 2+_=_
  omega
theorem k7.get:∀{C:List VL},k7 C->∀(q:Nat)(h:q<C.length),∃s v,C[q]=pr s v/\C.flatten[2*q]? =some ⟨5,0,s,[]⟩/\C.flatten[2*q+1]? =some v
 |[],_,q,h=>by cases h
 |c::C,hC,q,h=>by
  obtain⟨s,v,rfl⟩:=hC c B_
  cases q with
  |zero=>exact⟨s,v,rfl,rfl,rfl⟩
  |succ q=>
   obtain⟨s',v',e1,e2,e3⟩:=k7.get (C:=C) (fun c hc=>hC c (by simp[hc])) q IN
   refine⟨s',v',by simpa using e1,?_,?_⟩
   ·rw[List.flatten_cons,List.getElem?_append_right (by show 2<=_;omega),show 2*(q+1) -(pr s v).length=2*q by show 2*(q+1) -2=_;omega]
    exact e2
   ·rw[List.flatten_cons,List.getElem?_append_right (by show 2<=_;omega),show 2*(q+1)+1 -(pr s v).length=2*q+1 by show 2*(q+1)+1 -2=_;omega]
    exact e3
def xH{α:Type}[bz α]{l:List α}{k:Nat}{x:α}(h:l[k]? =some x):ix l (k:Int)=x:=by grind [List.getElem?_eq_some_iff,eK]
def dV(C:List VL):aa:=⟨7,0,⟨[]⟩,C.flatten⟩
def R4{C:List VL}(hC:k7 C)(hl:C.length<2^40)(key:aC):(b9 (dV C) key=some (-1)/\∀c∈C,nm c≠key.b)\/(∃q:Nat,q<C.length/\b9 (dV C) key=some ((2*q:Nat):Int)/\∃c∈C,nm c=key.b):=by
 have hlen:=hC.len
 unfold b9
 obtain⟨o,h1,h2⟩:=cF (body:=fun(k2:Int)=>
  if((dV C).Kind==7)&&(decide (k2<((dV C).L.length:Int)))then
   aI (0<=k2/\k2<(dV C).L.length)<|
   aI ((((ix (dV C).L k2).Kind)==5)=true->0<=k2/\k2<(dV C).L.length)<|
   if(((ix (dV C).L k2).Kind)==5)&&(((ix (dV C).L k2).S).b==key.b)then
    some (.inr (.inr k2))
   else
    some (.inl (ao (k2+2)))
  else
   some (.inr (.inl ()))) (s0:=0) (fun k2=>∃q:Nat,k2=((2*q:Nat):Int)/\q<=C.length/\∀c∈C.take q,nm c≠key.b) (fun k2=>(2*C.length -k2.toNat)) (fun o:Unit⊕Int=>match o with
    |.inl _=>∀c∈C,nm c≠key.b
    |.inr i=>∃q:Nat,q<C.length/\i=((2*q:Nat):Int)/\∃c∈C,nm c=key.b)
  ⟨0,rfl,Nat.zero_le _,fun c hc=>L_⟩ AT (by
    rintro k2 ⟨q,rfl,hq,hno⟩
    have hL:(dV C).L.length=2*C.length:=hlen
    by_cases hlt:q<C.length
    ·obtain⟨s,v,e1,e2,e3⟩:=hC.get q hlt
     have i1:ix (dV C).L ((2*q:Nat):Int)=⟨5,0,s,[]⟩:=xH e2
     have hc:(((dV C).Kind==7)&&(decide (((2*q:Nat):Int)<((dV C).L.length:Int))))=true:=by rw[show((dV C).Kind==7)=true from rfl,Bool.true_and,hL];simp;omega
     have hr:0<=((2*q:Nat):Int)/\((2*q:Nat):Int)<(dV C).L.length:=θ
     rw[if_pos hc,aP hr,aP (fun _=>hr),i1]
     cases hs:(s.b==key.b)with
     |true=>
      refine⟨.inr (.inr ((2*q:Nat):Int)),if_pos rfl,q,hlt,rfl,C[q],List.getElem_mem hlt,?_⟩
      grind [Ve]
     |false=>
      refine⟨.inl (ao (((2*q:Nat):Int)+2)),A_,⟨q+1,d_,hlt,fun c hc=>?_⟩,d_⟩
      grind [List.take_succ_eq_append_getElem,Ve]
    ·have hc:¬(((dV C).Kind==7)&&(decide (((2*q:Nat):Int)<((dV C).L.length:Int))))=true:=by
      rw[show((dV C).Kind==7)=true from rfl,Bool.true_and,hL];simp;omega
     rw[if_neg hc]
     grind)
 rw[h1]
 cases o with
 |inl u=>simp_all
 |inr i=>simp_all
theorem nle{x y:List UInt8}:(!(Op.bytesLess y x||(y==x)))=Op.bytesLess x y:=by
 cases h:Op.bytesLess x y with
 |true=>
  have h2:=nM.Rh _ _ h
  grind
 |false=>grind [Op.bytesLess,pU]
def Sr{C:List VL}(hC:k7 C)(s:aC)(v:aa):k7 (yZ (pr s v) C):=fun c hc=>by
 rcases List.mem_cons.1 ((mz _ C).mem_iff.1 hc)with rfl|hc
 ·grind
 ·exact hC c hc
def IE(x:VL):∀(C:List VL),∃A B,C=A++B/\yZ x C=A++x::B/\(∀c∈A,xP x c=false)/\∀c,B.head?=some c->xP x c=true
 |[]=>⟨[],[],rfl,rfl,fun c h=>F_,fun c h=>F_⟩
 |y::t=>by
  unfold yZ
  cases h:xP x y with
  |true=>exact⟨[],y::t,rfl,A_,fun c h=>F_,fun c hc=>A_⟩
  |false=>
   obtain⟨A,B,e1,e2,h1,h2⟩:=IE x t
   grind
theorem CU(C:List VL)(s:aC)(v:aa):(C++[pr s v]).flatten=C.flatten++[⟨5,0,s,[]⟩,v]:=by rw[List.flatten_append];rfl
def Tu{C:List VL}(hC:k7 C)(hl:C.length<2^30)(key:aC)(x:aa)(hf:b9 (dV C) key=some (-1)):iK (dV C) key x=some (dV (yZ (pr key x) C)):=by
 have bP:room=140737488355328:=rfl
 obtain⟨A,B,eC,eI,hA,hB⟩:=IE (pr key x) C
 have hlen:=hC.len
 have hL:(dV C).L.length=2*C.length:=hlen
 have hCl:C.length=A.length+B.length:=by rw[eC,List.length_append]
 let S:Nat->List VL:=fun q=>if q<=A.length then A.take q else A++pr key x::B.take (q -A.length)
 have hS:∀q,q<=C.length->k7 (S q)/\(S q).length<=q+1:=fun q hq=>by
  show k7 (if _ then _ else _)/\(if _ then _ else _:List VL).length<=_
  split
  ·exact⟨fun c hc=>hC c A_,A_⟩
  ·refine⟨fun c hc=>?_,A_⟩
   rcases List.mem_append.1 hc with hc|hc
   ·exact hC c A_
   ·rcases List.mem_cons.1 hc with rfl|hc
    ·grind
    ·exact hC c A_
 have hSl:∀q,q<=C.length->(S q).flatten.length<=2*q+2:=fun q hq=>by rw[(hS q hq).1.len];grind
 unfold iK
 refine ag (by show¬((7:Int)!=7)=true;decide) (ah hf ?_)
 refine bQ (a:=((S C.length).flatten,decide (C.length>A.length))) (fb C.length (fun q=>((S q).flatten,decide (q>A.length),((2*q:Nat):Int))) ?_ AT (fun q hq=>?_) ?_) ?_
 ·grind
 ·obtain⟨s,v,e1,e2,e3⟩:=hC.get q hq
  have i1:ix (dV C).L ((2*q:Nat):Int)=⟨5,0,s,[]⟩:=xH e2
  have i2:ix (dV C).L (((2*q:Nat):Int)+1)=v:=by have:=xH e3;rw[<-this];rfl
  have w1:ao (((2*q:Nat):Int)+1)=((2*q:Nat):Int)+1:=ak AT AT
  have w2:ao (((2*q:Nat):Int)+2)=((2*(q+1):Nat):Int):=H_
  have hr:0<=((2*q:Nat):Int)/\((2*q:Nat):Int)<(dV C).L.length:=θ
  have hr2:0<=((2*q:Nat):Int)+1/\((2*q:Nat):Int)+1<(dV C).L.length:=θ
  have hsl:=hSl q AT
  have lt1:decide (((2*q:Nat):Int)<((dV C).L.length:Int))=true:=decide_eq_true hr.2
  have lt2:decide (((2*q:Nat):Int)+1<((dV C).L.length:Int))=true:=decide_eq_true hr2.2
  have ne1:(((2*q:Nat):Int)==-1)=false:=By
  let M:List aa:=if q=A.length then(S q).flatten++[⟨5,0,key,[]⟩,x]else(S q).flatten
  have hM:M.length<=2*q+4:=by
   show(if _ then _ else _:List aa).length<=_
   split
   ·grind
   ·omega
  have aaN:M++[⟨5,0,s,[]⟩]++[v]=(S (q+1)).flatten:=by
   show(if _ then _ else _:List aa)++_++_=(if _ then _ else _:List VL).flatten
   by_cases h1:q<A.length
   ·have ea:A[q]=C[q]:=by simp only[eC];rw[List.getElem_append_left h1]
    rw[if_neg AT,if_pos AT]
    show(if _ then _ else _:List VL).flatten++_++_=_
    rw[if_pos AT,List.take_succ_eq_append_getElem h1,ea,e1,CU]
    simp
   ·have hb1:q -A.length<B.length:=AT
    have eb:B[q -A.length]=C[q]:=by simp only[eC];rw[List.getElem_append_right AT]
    have e4:A++pr key x::B.take (q+1 -A.length)=(A++pr key x::B.take (q -A.length))++[pr s v]:=by rw[show q+1 -A.length=(q -A.length)+1 by omega,List.take_succ_eq_append_getElem hb1,eb,e1];simp
    rw[if_neg (c:=q+1<=A.length) AT,e4,CU]
    by_cases h2:q=A.length
    ·rw[if_pos h2]
     show(if _ then _ else _:List VL).flatten++_++_++_=_
     rw[if_pos AT,List.take_of_length_le AT,show q -A.length=0 by omega,List.take_zero,CU]
     simp
    grind
  refine aw lt1 (bQ (a:=((S (q+1)).flatten,decide (q+1>A.length))) (bQ (a:=(M,decide (q+1>A.length))) (ai (fun _=>hr) (ai (fun _=>hr) ?_)) (ai hr (ai ?_ ?_))) ?_)
  ·show(if(((decide ((-1:Int)<0)&&(!decide (q>A.length)))&&((ix (dV C).L ((2*q:Nat):Int)).Kind==5))&&(!(Op.bytesLess (ix (dV C).L ((2*q:Nat):Int)).S.b key.b||((ix (dV C).L ((2*q:Nat):Int)).S.b==key.b))))=true then _ else _)=_
   rw[i1,nle]
   show(if(((true&&(!decide (q>A.length)))&&true)&&Op.bytesLess key.b s.b)=true then _ else _)=_
   by_cases h1:q=A.length
   ·have hbl:Op.bytesLess key.b s.b=true:=by
     have hb0:B.head?=some C[q]:=by
      have:C[q]=B[0]' AT:=by simp only[eC];rw[List.getElem_append_right AT];congr 1;omega
      rw[this,List.head?_eq_getElem?,List.getElem?_eq_getElem AT]
     have:=hB _ hb0
     rw[e1]at this;exact this
    rw[if_pos A_]
    refine ai A_ ?_
    grind
   ·have hno:¬(((true&&(!decide (q>A.length)))&&true)&&Op.bytesLess key.b s.b)=true:=by
     by_cases h2:q<A.length
     ·have:xP (pr key x) C[q]=false:=hA _ (by
       grind)
      rw[e1]at this
      have this:Op.bytesLess key.b s.b=false:=this
      grind
     ·simp;omega
    grind
  ·grind
  ·show(if((((2*q:Nat):Int))==-1)=true then _ else _)=_
   rw[ne1,if_neg BY,w1,lt2,if_pos rfl,aP hr2,i1,i2,aP A_]
   rw[aaN]
  grind
 ·grind
 ·have hsl:=hSl C.length (Nat.le_refl _)
  refine bQ (a:=(yZ (pr key x) C).flatten) ?_ rfl
  show(if(decide ((-1:Int)<0)&&(!decide (C.length>A.length)))=true then _ else _)=_
  rw[eI]
  by_cases h1:B=[]
  ·subst h1
   have h2:C.length=A.length:=by rw[hCl];rfl
   rw[if_pos (by rw[h2];simp)]
   refine ai A_ ?_
   show some ((if _ then _ else _:List VL).flatten++[⟨5,0,key,[]⟩,x])=_
   rw[if_pos AT,h2,List.take_of_length_le (Nat.le_refl _),show A++pr key x::[]=A++[pr key x] from rfl,CU]
  ·have h2:0<B.length:=List.length_pos_iff.2 h1
   rw[if_neg By]
   show some ((if _ then _ else _:List VL).flatten)=_
   rw[if_neg AT,show C.length -A.length=B.length by omega,List.take_of_length_le (Nat.le_refl _)]
def Tv{C:List VL}(hC:k7 C)(hl:C.length<2^30)(key:aC)(x:aa){q0:Nat}(hq0:q0<C.length)(hf:b9 (dV C) key=some ((2*q0:Nat):Int)):∃C',iK (dV C) key x=some (dV C')/\k7 C'/\C'.length=C.length/\∀c∈C',c∈C\/∃s,c=pr s x:=by
 have bP:room=140737488355328:=rfl
 obtain⟨s0,v0,g1,_,_⟩:=hC.get q0 hq0
 have hlen:=hC.len
 have hL:(dV C).L.length=2*C.length:=hlen
 let D:List VL:=C.set q0 (pr s0 x)
 have hDl:D.length=C.length:=List.length_set ..
 have hD:k7 D:=fun c hc=>by
  rcases List.mem_or_eq_of_mem_set hc with hc|rfl
  ·exact hC c hc
  grind
 have hS:∀q,q<=C.length->(D.take q).flatten.length=2*q:=fun q hq=>by
  have:=k7.len (C:=D.take q) fun c hc=>hD c (List.mem_of_mem_take hc)
  grind
 refine⟨D,?_,hD,hDl,fun c hc=>(List.mem_or_eq_of_mem_set hc).imp id fun e=>⟨s0,e⟩⟩
 unfold iK
 refine ag (by show¬((7:Int)!=7)=true;decide) (ah hf ?_)
 have hr0:decide (((2*q0:Nat):Int)<0)=false:=decide_eq_false AT
 refine bQ (a:=((D.take C.length).flatten,false)) (fb C.length (fun q=>((D.take q).flatten,false,((2*q:Nat):Int))) rfl AT (fun q hq=>?_) ?_) ?_
 ·obtain⟨s,v,e1,e2,e3⟩:=hC.get q hq
  have i1:ix (dV C).L ((2*q:Nat):Int)=⟨5,0,s,[]⟩:=xH e2
  have i2:ix (dV C).L (((2*q:Nat):Int)+1)=v:=by have:=xH e3;rw[<-this];rfl
  have w1:ao (((2*q:Nat):Int)+1)=((2*q:Nat):Int)+1:=ak AT AT
  have w2:ao (((2*q:Nat):Int)+2)=((2*(q+1):Nat):Int):=H_
  have hr:0<=((2*q:Nat):Int)/\((2*q:Nat):Int)<(dV C).L.length:=θ
  have hr2:0<=((2*q:Nat):Int)+1/\((2*q:Nat):Int)+1<(dV C).L.length:=θ
  have hsl:=hS q AT
  have lt1:decide (((2*q:Nat):Int)<((dV C).L.length:Int))=true:=decide_eq_true hr.2
  have lt2:decide (((2*q:Nat):Int)+1<((dV C).L.length:Int))=true:=decide_eq_true hr2.2
  have hn:(D.take (q+1)).flatten=(D.take q).flatten++D[q]' AT:=by rw[List.take_succ_eq_append_getElem AT,List.flatten_append];simp
  refine aw lt1 (bQ (a:=((D.take (q+1)).flatten,false)) (bQ (a:=((D.take q).flatten,false)) (ai (fun _=>hr) (ai (fun _=>hr) ?_)) (ai hr (ai ?_ ?_))) ?_)
  ·grind
  ·grind
  ·show(if(((2*q:Nat):Int)==((2*q0:Nat):Int))=true then _ else _)=_
   rw[hn]
   by_cases h1:q=q0
   ·subst h1
    have:D[q]' AT=pr s0 x:=by show(C.set q (pr s0 x))[q]'_=_;rw[List.getElem_set_self]
    have es:s=s0:=by rw[e1]at g1;injection g1 with g1;injection g1
    rw[if_pos B_,i1,aP A_,this,es]
    show some (((D.take q).flatten++[_])++[x],false)=some ((D.take q).flatten++[_,x],false)
    simp
   ·have:D[q]' AT=pr s v:=by show(C.set q0 (pr s0 x))[q]'_=_;rw[List.getElem_set_ne (fun e=>h1 e.symm)];exact e1
    rw[if_neg By,w1,lt2,if_pos rfl,aP hr2,i1,i2,aP A_,this]
    show some (((D.take q).flatten++[_])++[v],false)=some ((D.take q).flatten++[_,v],false)
    simp
  grind
 ·grind
 ·refine bQ (a:=D.flatten) ?_ rfl
  grind
def Dn(C:List VL):Prop:=C.Pairwise fun x y=>nm x≠nm y
def Dn.perm{C D:List VL}(h:C.Perm D):Dn C↔Dn D:=h.pairwise_iff fun h e=>h e.symm
theorem NT:∀{C:List VL},Dn C->nK C=false
 |[],_=>rfl
 |[_],_=>rfl
 |x::y::t,h=>by
  obtain⟨h1,h2⟩:=List.pairwise_cons.1 h
  rw[Ey,NT h2,Bool.or_false]
  have:=h1 y B_
  cases e:((ix y 0).S.b==(ix x 0).S.b)with
  |false=>rfl
  |true=>exact absurd (by have:(ix y 0).S.b=(ix x 0).S.b:=by simpa using e
                          exact this.symm) this
def aas{C:List VL}(hs:jI xP C)(h:nK C=false):Dn C:=(strict hs h).imp fun{x y} h e=>by
 have h:Op.bytesLess (nm x) (nm y)=true:=h
 grind [vt]
def QM(C:List VL):nK (vj C)=false↔Dn C:=⟨fun h=>(Dn.perm (uL C)).1 (aas (yx C) h),fun h=>NT ((Dn.perm (uL C)).2 h)⟩
set_option maxRecDepth 4000
def Mw(fuel:Nat)(b_0:List UInt8)(aq:Bool)(cC:Int):Int×(List aa)×Int->Option ((Int×(List aa)×Int)⊕(Unit⊕(aa×Int×Int))):=fun((at5,l6,n7):Int×(List aa)×Int)=>
       if decide (n7<=(b_0.length:Int))then
        aL (bu b_0 at5 aq) fun r12=>
        if r12.2 !=0 then
         some (.inr (.inr ((aa.mk 0 0 (aC.mk []) ([]:List aa)),(0:Int),r12.2)))
        else
         if r12.1.Kind==3 then
          some (.inr (.inr ((aa.mk 6 0 (aC.mk []) l6),r12.1.To,(0:Int))))
         else
          aL (bj fuel b_0 r12.1 aq cC) fun r13=>
          if r13.2.2 !=0 then
           some (.inr (.inr ((aa.mk 0 0 (aC.mk []) ([]:List aa)),(0:Int),r13.2.2)))
          else
           aI ((l6.length+[r13.1].length)*56<=room)<|
           some (.inl (r13.2.1,l6++[r13.1],ao (n7+1)))
       else
        some (.inr (.inl ()))
def MK(fuel:Nat)(b_0:List UInt8)(aq:Bool)(cC:Int):Int×aa×Bool×Int->Option ((Int×aa×Bool×Int)⊕(Unit⊕(aa×Int×Int))):=fun((at5,d6,qc,n8):Int×aa×Bool×Int)=>
       if decide (n8<=(b_0.length:Int))then
        aL (bu b_0 at5 aq) fun r13=>
        if r13.2 !=0 then
         some (.inr (.inr ((aa.mk 0 0 (aC.mk []) ([]:List aa)),(0:Int),r13.2)))
        else
         if r13.1.Kind==5 then
          if qc then
           some (.inr (.inr ((aa.mk 0 0 (aC.mk []) ([]:List aa)),(0:Int),(16:Int))))
          else
           some (.inr (.inr (d6,r13.1.To,(0:Int))))
         else
          if r13.1.Kind==0 then
           some (.inr (.inr ((aa.mk 0 0 (aC.mk []) ([]:List aa)),(0:Int),(10:Int))))
          else
           if(r13.1.Kind !=1)||(r13.1.V.Kind !=5)then
            some (.inr (.inr ((aa.mk 0 0 (aC.mk []) ([]:List aa)),(0:Int),(11:Int))))
           else
            if decide (cC>=64)then
             some (.inr (.inr ((aa.mk 0 0 (aC.mk []) ([]:List aa)),(0:Int),(15:Int))))
            else
             aL (bu b_0 r13.1.To aq) fun r14=>
             if r14.2 !=0 then
              some (.inr (.inr ((aa.mk 0 0 (aC.mk []) ([]:List aa)),(0:Int),r14.2)))
             else
              aL (bj fuel b_0 r14.1 aq cC) fun r15=>
              if r15.2.2 !=0 then
               some (.inr (.inr ((aa.mk 0 0 (aC.mk []) ([]:List aa)),(0:Int),r15.2.2)))
              else
               aL (eu (!qc) 0 (b9 d6 r13.1.V.S)) fun r16=>
               aL (iK d6 r13.1.V.S r15.1) fun r17=>
               some (.inl (r15.2.1,r17,qc||(decide (r16>=0)),ao (n8+1)))
       else
        some (.inr (.inl ()))
def N3{fuel:Nat}{b:List UInt8}{at_:Int}{last:Bool}{D:Int}{v:aa}{to e:Int}(h:iter (Mw fuel b last D) (at_,[],0)=some (.inr (v,to,e))):gO (fuel+1) b at_ last D=some (v,to,e):=by
 rw[gO]
 exact bH (z:=.inr (v,to,e)) (xd (z:=.inr (v,to,e)) h rfl) rfl
def RS{fuel:Nat}{b:List UInt8}{at_:Int}{last:Bool}{D:Int}{v:aa}{to e:Int}(h:iter (MK fuel b last D) (at_,dV [],false,0)=some (.inr (v,to,e))):ji (fuel+1) b at_ last D=some (v,to,e):=by
 rw[ji]
 exact bH (z:=.inr (v,to,e)) (xd (z:=.inr (v,to,e)) h rfl) rfl
section
variable{b:List UInt8}{last:Bool}
def Qx(hb:b.length<1048576){j:Nat}(hj:j<=b.length)(v:aa)(op:AV):∃o1 at' e is to,df ⟨b,(j:Int),last,op⟩ v=some (o1,e,⟨b,at',last,op⟩)/\lz b (j:Int) last v.N=some (is,to,e)/\
 (e=0->(is=true->o1=⟨8,v.N,⟨[]⟩,[]⟩/\at'=to/\∃q:Nat,to=(q:Int)/\j<=q/\q<=b.length)/\(is=false->o1=v/\at'=(j:Int))):=by
 unfold df lz
 rw[Cu hb j hj,pD hb j hj,aB,aB]
 by_cases h1:(jF b last j).2=0
 ·obtain⟨⟨j2,e2,h2,h3,_⟩,_,_⟩:=I9 hj h1
  generalize jF b last j=r1 at h1 e2⊢
  obtain⟨t1,e1⟩:=r1
  obtain rfl:e1=0:=h1
  have e2:t1.To=(j2:Int):=e2
  have z1:((0:Int)!=0)=false:=rfl
  have z2:((0:Int)==6)=false:=rfl
  have m0:fg 0=some 0:=rfl
  simp only[tR,du,dj,z1,z2,m0,Bool.not_false,si,aB,Bool.false_or,Bool.false_eq_true,if_false]
  cases hw:((t1.Kind==1)&&(t1.V.Kind==2))with
  |false=>
   simp only[Bool.not_false,if_true]
   exact⟨v,j,0,false,0,rfl,rfl,fun _=>⟨fun h=>F_,fun _=>⟨rfl,rfl⟩⟩⟩
  |true=>
   simp only[Bool.not_true,Bool.false_eq_true,if_false]
   rw[e2,Cu hb j2 h2,pD hb j2 h2,aB,aB]
   by_cases h5:(jF b last j2).2=0
   ·obtain⟨⟨j3,e3,h6,h7,_⟩,_,_⟩:=I9 h2 h5
    generalize jF b last j2=r4 at h5 e3⊢
    obtain⟨t4,e4⟩:=r4
    obtain rfl:e4=0:=h5
    have e3:t4.To=(j3:Int):=e3
    simp only[tR,z1,z2,m0,Bool.false_or,Bool.false_eq_true,if_false,aB]
    cases hR:((t4.Kind !=6)||(!(t4.S.b==(aC.mk [82]).b)))with
    |true=>
     simp only[if_true]
     exact⟨v,j,0,false,0,rfl,rfl,fun _=>⟨fun h=>F_,fun _=>⟨rfl,rfl⟩⟩⟩
    |false=>
     simp only[Bool.false_eq_true,if_false]
     by_cases hN:((decide (v.N<1)||decide (v.N>4096))||(t1.V.N !=0))=true
     ·exact⟨v,j,26,false,0,if_pos hN,if_pos hN,fun h=>F_⟩
     ·exact⟨_,t4.To,0,true,t4.To,if_neg hN,if_neg hN,fun _=>⟨fun _=>⟨rfl,rfl,j3,e3,AT,h6⟩,fun h=>F_⟩⟩
   ·generalize jF b last j2=r4 at h5⊢
    obtain⟨t4,e4⟩:=r4
    have h5:e4≠0:=h5
    have y1:(e4 !=0)=true:=by simpa using h5
    simp only[tR,y1,Bool.true_or,if_true]
    by_cases h6:e4=6
    ·subst h6
     exact⟨v,j,6,false,0,rfl,rfl,fun h=>F_⟩
    ·have y2:(e4==6)=false:=by simpa using h6
     have m1:fg e4=some 0:=by unfold fg;rw[y2];rfl
     simp only[m1,y2,aB,Bool.false_eq_true,if_false]
     exact⟨v,j,0,false,0,rfl,rfl,fun _=>⟨fun h=>F_,fun _=>⟨rfl,rfl⟩⟩⟩
 ·generalize jF b last j=r1 at h1⊢
  obtain⟨t1,e1⟩:=r1
  have h1:e1≠0:=h1
  have y1:(e1 !=0)=true:=K_
  simp only[tR,y1,Bool.not_true,Hw,aB,Bool.true_or,if_true]
  by_cases h6:e1=6
  ·subst h6
   exact⟨v,j,6,false,0,rfl,rfl,fun h=>F_⟩
  ·have y2:(e1==6)=false:=by simpa using h6
   have m1:fg e1=some 0:=by unfold fg;rw[y2];rfl
   simp only[m1,y2,aB,Bool.false_eq_true,if_false]
   exact⟨v,j,0,false,0,rfl,rfl,fun _=>⟨fun h=>F_,fun _=>⟨rfl,rfl⟩⟩⟩
def Jv(hb:b.length<1048576){k:Nat}{t:aE}(ht:zE b k t)(hL:t.V.L=[])(hk:t.Kind=1\/t.Kind=6):∃v at' e,(∀st,c5 st=false->kR ⟨b,t.To,last,st⟩ t=some (v,e,at'))/\
 (∀fuel D,bj (fuel+1) b (tR t) last D=if e≠0 then some (zV,0,e)else if D>=64 then some (zV,0,15)else some (v,at',0))/\(e=0->(∃q:Nat,at'=(q:Int)/\k<q/\q<=b.length)/\v.L=[]):=by
 obtain⟨⟨j,ej,hj1,hj2,hj3⟩,_,_⟩:=ht
 have hj3:k<j:=hj3 AT
 have k0:(t.Kind==0)=false:=By
 have k2:(t.Kind==2)=false:=By
 have k3:(t.Kind==3)=false:=By
 have k4:(t.Kind==4)=false:=By
 have k5:(t.Kind==5)=false:=By
 have rv:∀fuel D,bj (fuel+1) b (tR t) last D=nD (
  if t.Kind==6 then
   if t.S.b==(aC.mk [116,114,117,101]).b then
    some (.inl (aa.mk 1 1 (aC.mk []) ([]:List aa)))
   else
    if t.S.b==(aC.mk [102,97,108,115,101]).b then
     some (.inl (aa.mk 1 0 (aC.mk []) ([]:List aa)))
    else
     if t.S.b==(aC.mk [110,117,108,108]).b then
      some (.inl (aa.mk 0 0 (aC.mk []) ([]:List aa)))
     else
      some (.inr ((0:Int),(11:Int)))
  else
   some (.inl t.V)) (fun(v9:aa)=>
  nD (
   aL (dj (tR t)) fun r22=>
   if r22 then
    aL (lz b t.To last v9.N) fun r23=>
    if r23.2.2 !=0 then
     some (.inr ((0:Int),r23.2.2))
    else
     if r23.1 then
      some (.inl ((aa.mk 8 v9.N (aC.mk []) ([]:List aa)),r23.2.1))
     else
      some (.inl (v9,t.To))
   else
    some (.inl (v9,t.To))) (fun((v17,Mx):aa×Int)=>
   if decide (D>=64)then
    some ((aa.mk 0 0 (aC.mk []) ([]:List aa)),(0:Int),(15:Int))
   else
    some (v17,Mx,0))
  (fun((t20,t21):Int×Int)=>some ((aa.mk 0 0 (aC.mk []) ([]:List aa)),t20,t21)))
  (fun((t12,t13):Int×Int)=>some ((aa.mk 0 0 (aC.mk []) ([]:List aa)),t12,t13)):=fun fuel D=>by
  rw[bj]
  simp only[tR,k0,k2,k3,k4,k5,Bool.or_self,Bool.false_eq_true,if_false]
  rfl
 have Ia:∀(D:Int)(v:aa)(q:Int),(if decide (D>=64)then some ((aa.mk 0 0 (aC.mk []) ([]:List aa)),(0:Int),(15:Int))else some (v,q,0))=if D>=64 then some (zV,0,15)else some (v,q,0):=fun D v q=>by
  by_cases h:D>=64
  ·rw[if_pos h,if_pos IN];rfl
  ·rw[if_neg h,if_neg IN]
 have tw:∀st,c5 st=false->kR ⟨b,t.To,last,st⟩ t=if t.Kind==6 then aL (gX t.S) fun r=>some (r.1,r.2,t.To)
  else aL (du t) fun w=>if w then aL (df ⟨b,t.To,last,.fO⟩ t.V) fun r=>some (r.1,r.2.1,r.2.2.at_)else some (t.V,0,t.To):=fun st dQ=>by
  unfold kR
  rw[if_neg (by show¬(c5 st&&_)=true;rw[dQ];simp)]
 rcases hk with hk|hk
 ·
  have k6:(t.Kind==6)=false:=ζ
  have k1:(t.Kind==1)=true:=ζ
  cases hw:(t.V.Kind==2)with
  |false=>
   have w1:du t=some false:=by unfold du;rw[k1,hw];rfl
   have w2:dj (tR t)=some false:=by unfold dj;show some ((t.Kind==1)&&(t.V.Kind==2))=_;rw[k1,hw];rfl
   refine⟨t.V,t.To,0,fun st dQ=>?_,fun fuel D=>?_,fun _=>⟨⟨j,ej,hj3,hj1⟩,hL⟩⟩
   ·rw[tw st dQ,k6,w1];rfl
   ·rw[rv,k6,w2,if_neg (by decide:¬((0:Int)≠0)),<-Ia];rfl
  |true=>
   have w1:du t=some true:=by unfold du;rw[k1,hw];rfl
   have w2:dj (tR t)=some true:=by unfold dj;show some ((t.Kind==1)&&(t.V.Kind==2))=_;rw[k1,hw];rfl
   obtain⟨o1,at',e,is,to,f1,f2,f3⟩:=Qx (b:=b) (last:=last) hb hj1 t.V .fO
   rw[<-ej]at f1 f2 f3
   refine⟨o1,at',e,fun st dQ=>?_,fun fuel D=>?_,fun he=>?_⟩
   ·rw[tw st dQ,k6,w1]
    show aL (df ⟨b,t.To,last,.fO⟩ t.V) _=_
    rw[f1];rfl
   ·rw[rv,k6,w2]
    show nD (aL (lz b t.To last t.V.N) _) _ _=_
    rw[f2,aB]
    by_cases he:e=0
    ·subst he
     obtain⟨g1,g2⟩:=f3 rfl
     rw[if_neg (by decide:¬((0:Int)≠0)),<-Ia]
     cases is with
     |true=>obtain⟨rfl,rfl,_⟩:=g1 rfl;rfl
     |false=>obtain⟨rfl,rfl⟩:=g2 rfl;rfl
    ·have y1:(e !=0)=true:=E_
     rw[if_pos he]
     show nD (if(e !=0)=true then _ else _) _ _=_
     rw[if_pos y1];rfl
   ·obtain⟨g1,g2⟩:=f3 he
    cases is with
    |true=>
     obtain⟨rfl,rfl,q,e1,h1,h2⟩:=g1 rfl
     exact⟨⟨q,e1,AT,h2⟩,rfl⟩
    |false=>
     obtain⟨rfl,rfl⟩:=g2 rfl
     exact⟨⟨j,ej,hj3,hj1⟩,hL⟩
 ·
  have k6:(t.Kind==6)=true:=ζ
  have k1:(t.Kind==1)=false:=ζ
  have w2:dj (tR t)=some false:=by unfold dj;show some ((t.Kind==1)&&(t.V.Kind==2))=_;rw[k1];rfl
  have go:∀(v:aa)(e:Int),v.L=[]->gX t.S=some (v,e)->(∀fuel D,bj (fuel+1) b (tR t) last D=if e≠0 then some (zV,0,e)else if D>=64 then some (zV,0,15)else some (v,t.To,0))->∃v at' e,(∀st,c5 st=false->kR ⟨b,t.To,last,st⟩ t=some (v,e,at'))/\
  (∀fuel D,bj (fuel+1) b (tR t) last D=if e≠0 then some (zV,0,e)else if D>=64 then some (zV,0,15)else some (v,at',0))/\(e=0->(∃q:Nat,at'=(q:Int)/\k<q/\q<=b.length)/\v.L=[]):=fun v e hvL h1 h2=>⟨v,t.To,e,fun st dQ=>by rw[tw st dQ,k6,if_pos rfl,h1];rfl,h2,fun _=>⟨⟨j,ej,hj3,hj1⟩,hvL⟩⟩
  by_cases c1:(t.S.b==(aC.mk [116,114,117,101]).b)=true
  ·refine go ⟨1,1,⟨[]⟩,[]⟩ 0 rfl (by unfold gX;rw[if_pos c1]) fun fuel D=>?_
   rw[rv,k6,if_pos rfl,if_pos c1,w2,if_neg (by decide:¬((0:Int)≠0)),<-Ia];rfl
  ·by_cases c2:(t.S.b==(aC.mk [102,97,108,115,101]).b)=true
   ·refine go ⟨1,0,⟨[]⟩,[]⟩ 0 rfl (by unfold gX;rw[if_neg c1,if_pos c2]) fun fuel D=>?_
    rw[rv,k6,if_pos rfl,if_neg c1,if_pos c2,w2,if_neg (by decide:¬((0:Int)≠0)),<-Ia];rfl
   ·by_cases c3:(t.S.b==(aC.mk [110,117,108,108]).b)=true
    ·refine go ⟨0,0,⟨[]⟩,[]⟩ 0 rfl (by unfold gX;rw[if_neg c1,if_neg c2,if_pos c3]) fun fuel D=>?_
     rw[rv,k6,if_pos rfl,if_neg c1,if_neg c2,if_pos c3,w2,if_neg (by decide:¬((0:Int)≠0)),<-Ia];rfl
    ·refine go ⟨0,0,⟨[]⟩,[]⟩ 11 rfl (by unfold gX;rw[if_neg c1,if_neg c2,if_neg c3]) fun fuel D=>?_
     rw[rv,k6,if_pos rfl,if_neg c1,if_neg c2,if_neg c3,if_pos (by decide:(11:Int)≠0)];rfl
end
theorem HV:∀{C:List VL},k7 C->fE C.flatten C.length=C:=fun{C} h=>by
 have hl:=h.len
 show(List.range C.length).map (jx C.flatten)=C
 refine List.ext_getElem B_ fun q h1 h2=>?_
 have h1:q<C.length:=h2
 obtain⟨s,v,e1,e2,e3⟩:=h.get q h1
 rw[List.getElem_map,List.getElem_range]
 unfold jx
 obtain⟨g2,e2⟩:=List.getElem?_eq_some_iff.1 e2
 obtain⟨g3,e3⟩:=List.getElem?_eq_some_iff.1 e3
 rw[List.drop_eq_getElem_cons g2,List.drop_eq_getElem_cons g3,e1,e2,e3]
 rfl
structure DI(l:List aa)(d:aa)(tw:Bool)(Cs C:List VL):Prop where
 l:l=Cs.flatten
 ps:k7 Cs
 d:d=dV C
 pc:k7 C
 len:C.length<=Cs.length
 no:tw=false->C.Perm Cs/\jI xP C/\Dn Cs
 yes:tw=true->¬Dn Cs
def DI.nil:DI [] (dV []) false [] []:=⟨rfl,fun c h=>F_,rfl,fun c h=>F_,Nat.le_refl _,fun _=>⟨List.Perm.refl _,List.Pairwise.nil,List.Pairwise.nil⟩,fun h=>F_⟩
theorem Dn.app{C:List VL}{c:VL}(h:Dn C)(hn:∀x∈C,nm x≠nm c):Dn (C++[c]):=List.pairwise_append.2 ⟨h,List.pairwise_singleton _ _,fun x hx y hy=>A_⟩
theorem DI.put{l:List aa}{d:aa}{tw:Bool}{Cs C:List VL}(h:DI l d tw Cs C)(hl:Cs.length<2^29)(s:aC)(v:aa):∃i d',aL (eu (!tw) 0 (b9 d s)) (fun r16=>aL (iK d s v) fun r17=>(some (r17,tw||decide (r16>=0)):Option (aa×Bool)))=some (d',i)/\∃C',DI (l++[⟨5,0,s,[]⟩,v]) d' i (Cs++[pr s v]) C'/\∀c∈C',c∈C\/∃s',c=pr s' v:=by
 obtain⟨rfl,ps,rfl,pc,len,no,yes⟩:=h
 have ps2:k7 (Cs++[pr s v]):=fun c hc=>by
  rcases List.mem_append.1 hc with hc|hc
  ·exact ps c hc
  grind
 have el:Cs.flatten++[⟨5,0,s,[]⟩,v]=(Cs++[pr s v]).flatten:=(CU Cs s v).symm
 have afm:¬Dn Cs->¬Dn (Cs++[pr s v]):=fun h1 h2=>h1 (List.pairwise_append.1 h2).1
 rcases R4 pc AT s with⟨hf,hno⟩|⟨q,hq,hf,c,hc,hcn⟩
 ·have hp:=Tu pc AT s v hf
  refine⟨tw,dV (yZ (pr s v) C),?_,yZ (pr s v) C,⟨el,ps2,rfl,Sr pc s v,?_,fun htw=>?_,fun htw=>afm (yes htw)⟩,fun c hc=>(List.mem_cons.1 ((mz _ C).mem_iff.1 hc)).symm.imp id fun e=>⟨s,e⟩⟩
  ·rw[hf,hp]
   cases tw<;>rfl
  ·rw[(mz _ C).length_eq,List.length_append];grind
  ·obtain⟨p1,p2,p3⟩:=no htw
   refine⟨((mz _ C).trans (p1.cons _)).trans (List.perm_append_singleton _ _).symm,Cm _ p2,p3.app fun x hx=>?_⟩
   exact hno x (p1.mem_iff.2 hx)
 ·obtain⟨C',hp,h1,h2,hmm⟩:=Tv pc AT s v hq hf
  refine⟨true,dV C',?_,C',⟨el,ps2,rfl,h1,A_,(fun h=>F_),fun _=>?_⟩,hmm⟩
  ·rw[hf,hp]
   cases tw with
   |true=>rfl
   |false=>
    show some (dV C',false||decide (((2*q:Nat):Int)>=0))=_
    rw[decide_eq_true AT];rfl
  ·cases tw with
   |true=>grind
   |false=>
    obtain⟨p1,_,_⟩:=no rfl
    intro h3
    have hm:=p1.mem_iff.1 hc
    exact(List.pairwise_append.1 h3).2.2 c hm (pr s v) B_ (by rw[hcn];rfl)
theorem DI.close{l:List aa}{d:aa}{tw:Bool}{Cs C:List VL}(h:DI l d tw Cs C)(hl:Cs.length<2^28):iJ l=if tw then some ([],16)else some (d.L,0):=by
 obtain⟨rfl,ps,rfl,pc,len,no,yes⟩:=h
 have hlen:=ps.len
 unfold iJ
 rw[aP ⟨AT,AT⟩,show Cs.flatten.length/2=Cs.length by omega,HV ps]
 cases tw with
 |true=>
  have:nK (vj Cs)=true:=by
   cases e:nK (vj Cs)with
   |true=>rfl
   |false=>exact absurd ((QM Cs).1 e) (yes rfl)
  grind
 |false=>
  obtain⟨p1,p2,p3⟩:=no rfl
  have e:=(QM Cs).2 p3
  have k:=(ze p1 p2).2 ((ze p1 p2).1.trans e)
  rw[e,cond_false,if_neg BY,<-k]
  rfl
section
variable{b:List UInt8}{last:Bool}
abbrev Mc:=qV iJ
def Dlv(b:List UInt8)(last:Bool)(m:Nat)(st:List aX)(v:aa)(j:Nat)(o:aa×Int×Int):Prop:=match st with
 |[]=>o=(v,(j:Int),0)
 |w::ws=>kz Mc m ⟨b,(j:Int),last,⟨w.fj,w.l_++[v]⟩::ws⟩ o
def DD:List aX->Nat
 |[]=>0
 |w::_=>w.l_.length
def yR(r:aa×Bool×Int×PS):Option (PS⊕(aa×Int×Int)):=
 bif r.2.2.1 !=0 then some (.inr (zV,0,r.2.2.1))else
 bif !r.2.1 then some (.inl r.2.2.2)else
 aI (r.2.2.2.st.length<=64)<|match r.2.2.2.st with
 |[]=>some (.inr (r.1,r.2.2.2.at_,0))
 |v::vs=>aI ((v.l_.length+1)*56<=room)<|some (.inl {r.2.2.2 with st:=⟨v.fj,v.l_++[r.1]⟩::vs})
def LP(hb:b.length<1048576){k:Nat}(hk:k<=b.length){st:List aX}(dQ:st.length<=64)(h:(jF b last k).2≠0):Mc ⟨b,(k:Int),last,st⟩=some (.inr (zV,0,(jF b last k).2)):=by
 unfold Mc qV
 rw[aP dQ,Cu hb k hk,aB]
 grind
def PI(hb:b.length<1048576){k:Nat}(hk:k<=b.length){st:List aX}(dQ:st.length<=64)(h:(jF b last k).2=0):Mc ⟨b,(k:Int),last,st⟩=aL (nI iJ ⟨b,(jF b last k).1.To,last,st⟩ (jF b last k).1) yR:=by
 unfold Mc qV
 rw[aP dQ,Cu hb k hk,aB]
 have:((jF b last k).2 !=0)=false:=by rw[h];rfl
 rw[this,cond_false]
 rfl
theorem jO{v:aa}{c:Bool}{e:Int}{p:PS}(h:e≠0):yR (v,c,e,p)=some (.inr (zV,0,e)):=by
 unfold yR
 grind
def OL{v:aa}{j:Nat}{st:List aX}(dQ:st.length<=64)(hl:DD st<1048577){m:Nat}{o:aa×Int×Int}(h:Dlv b last m st v j o){p:PS}(hp:Mc p=yR (v,true,0,⟨b,(j:Int),last,st⟩)):kz Mc (m+1) p o:=by
 have bP:room=140737488355328:=rfl
 have e:yR (v,true,0,⟨b,(j:Int),last,st⟩)=match st with
  |[]=>some (.inr (v,(j:Int),0))
  |w::ws=>some (.inl ⟨b,(j:Int),last,⟨w.fj,w.l_++[v]⟩::ws⟩):=by
  unfold yR
  show aI (st.length<=64) _=_
  rw[aP dQ]
  cases st with
  |nil=>rfl
  |cons w ws=>
   have hl:w.l_.length<1048577:=hl
   exact ai AT rfl
 rw[e]at hp
 cases st with
 |nil=>
  have h:o=(v,(j:Int),0):=h
  rw[h];exact kz.stop hp
 |cons w ws=>exact kz.step hp h
end
end Go.AB
end
