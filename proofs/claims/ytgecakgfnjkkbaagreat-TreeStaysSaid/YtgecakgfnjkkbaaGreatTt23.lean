/- A part. -/
import Derived.Test.YtgecakgfnjkkbaaGreatTt11
import Derived.Test.YtgecakgfnjkkbaaGreatTt21
set_option linter.defProp false
set_option linter.unusedSimpArgs false
set_option linter.unusedVariables false
section
set_option maxRecDepth 16000
namespace Go.AB
open Go
open Go.Proofs.Tryz (prog)
attribute[-go_sem] Nat.add_zero mO cF cj cS bK ch
def wW:IC:=dec 0x51000d1407f3
def wX:IC:=dec 0x3627b8718aa
def wY:IC:=dec 0x158ec205d94692d8d3
def oO:IC:=dec 0x2fcf6b6fa3523714fcb3313da074ba291a6af5be91c4d8cb10123dc41539308f6582208bf0d3106def54c4e5a84534da99807b34ffffe539e3f1cefb7ae503efdfbf1e3ebbaa2478effde2e514483c6ae45165e9cd57e1b8f56f08178a8ce60956bec0e1f9db401059696e255ab0a1713fac657e711131b0bd4016bf6634c9b1d4a4ea47413b40b
def wZ:IC:=dec 0x10de4724f9c2c93ea0b2fa438d40ef683314ca754d7ee
def iD:List jt:=[⟨2,false,none⟩,⟨3,true,none⟩]
abbrev rJ(l:List aa):AV:=.sl false 4 l.length (flat l)
def Ka{s:ae}{l:List aa}{Q:List AV->ae->Prop}(hq:∀Bs,s Bs=none->∀Bn,(s.set Bs (.cells [rJ l])) Bn=none->Q [.fn 276 [] [.ref Bs 0,.ref Bn 0]] ((s.set Bs (.cells [rJ l])).set Bn (.cells [.int .i64 2]))):FN prog 248 [rJ l,.int .i64 2] s Q:=by
 refine FS 9 [⟨4,true,none⟩] 0x1df974198ae119c34625ad2904b8198a9a2ba880658cc2443cdd4e28a0961dc ?_
 have h0:decide ((2:Int)<1)=false:=rfl
 refine Xe2 ?_
 intro Bs h1 Bn h2
 refine Xe3 h0 ?_
 exact hq Bs h1 Bn h2
def cA:Code->Code
 |.seq a _=>a
 |c=>c
def cB:Code->Code
 |.seq _ b=>b
 |c=>c
def rfA:Code->Code
 |.rangeFunc _ _ a _=>a
 |c=>c
def rfB:Code->Code
 |.rangeFunc _ _ _ b=>b
 |c=>c
def cIn:Code->Code
 |.block _ c=>c
 |c=>c
def ac2:Code->Array Oper
 |.region _ ops _=>ops
 |_=> #[]
def Ty:IC->List ar
 |.block _ (.Er _ l _)=>l
 |_=>[]
noncomputable def DA:Code:=(Go.Proofs.Tryz.f218.body).getD .skip
noncomputable def pC1:Code:=cA DA
noncomputable def pC2:Code:=cA (cB DA)
noncomputable def pC3:Code:=cA (cA (cB (cB DA)))
noncomputable def pRf:Code:=cIn (cB (cA (cB (cB DA))))
noncomputable def pC4:Code:=cB (cB (cB DA))
noncomputable def XT:Array Oper:=ac2 (cIn (rfB pRf))
def DB:Go.Proofs.Tryz.f218.body=some (.seq pC1 (.seq pC2 (.seq (.seq pC3 (.block 0 (.rangeFunc (.tmp 8) #[9] (rfA pRf) (rfB pRf)))) pC4))):=B_
theorem RV:rfB pRf=.block 1 (.region 4 XT false):=B_
theorem Za:rfA pRf=.region 3 #[{dst:=some 5,op:=.assign (.tmp 9),type:=30,pos:= "parse.go:116",after:= #[],guard:=none}] false:=B_
def DC:lW prog 40 pC1 wW=true:=B_
def DD:lW prog 40 pC2 wX=true:=B_
def DE:lW prog 40 pC3 wY=true:=B_
def DF:lW prog 40 pC4 oO=true:=B_
def NL:cJ prog 40 XT XT.toList (Ty wZ)=true:=B_
def Lz:XT.toList.all yI=true:=B_
def GV:lh prog Go.Proofs.Tryz.f218.results.toList iD=true:=B_
theorem LA:Go.Proofs.Tryz.f218.ntmps=40:=B_
def jH(l:List aa)(k:Nat):List aa:=(l.drop (2*k)).take 2
def dY(l:List aa)(k:Nat):List VL:=(List.range k).map (jH l)
theorem nH(l:List aa)(k:Nat):dY l (k+1)=dY l k++[jH l k]:=by unfold dY;rw[List.range_succ,List.map_append];rfl
def AA(l:List aa)(k:Nat):(dY l k).length=k:=by simp[dY]
theorem oC(l:List aa)(k:Nat)(h:2*k+2<=l.length):(jH l k).length=2:=by unfold jH;rw[List.length_take,List.length_drop];omega
def Sb{w:World}{R:Nat->Nat}{l:List aa}{b off k:Nat}(hR:off+(flat l).length<=R b)(ha:At w R b off (flat l))(hk:2*k+2<=l.length):VR w R (rJ (jH l k)) (fH b off k):=by
 obtain⟨u,h1,h2,h3⟩:=ha
 have hs:=lG l 4 (2*k) 2 rfl
 have hl:(flat (jH l k)).length=2*4:=by rw[ax,oC l k hk];rfl
 have hfl:(flat l).length=l.length*4:=ax l
 have hg:∀(j:Nat)(c:AV),(flat (jH l k))[j]? =some c->(flat l)[2*k*4+j]? =some c:=fun j c hj=>by
  unfold jH at hj
  rw[<-hs,Ca]at hj
  split at hj
  ·exact hj
  ·cases hj
 unfold rJ fH
 rw[oC l k hk]
 refine .sl false 4 2 _ b _ 2 (fun j=>u (2*k*4+j)) (fun c hc=>?_) hl AT (Nat.le_refl _) (fun j c hj=>?_) (fun j c hj=>h2 _ c (hg j c hj))
 ·obtain⟨j,hj⟩:=List.mem_iff_getElem?.1 hc
  exact h3 c (List.mem_of_getElem? (hg j c hj))
 ·rw[Nat.add_assoc];exact h1 _ c (hg j c hj)
def nbB(ls:List VL)(i:Int):Option (Int⊕Bool):=
 bif decide (i<ls.length)then a8 (1<=i/\i<2^62/\0<(ix ls i).length/\0<(ix ls (i -1)).length)<|
  bif(ix (ix ls i) 0).S.b==(ix (ix ls (i -1)) 0).S.b then some (.inr true)else some (.inl (i+1))
 else some (.inr false)
def U5{s:ae}{r:cZ}{ls:List VL}{B:Nat}{o o':SO}(h:fY s r ls)(hB:s B=some o):(jb s r ls).set B o'=jb (s.set B o') r ls/\fY (s.set B o') r ls:=by
 cases r with
 |none=>exact⟨rfl,h⟩
 |some x=>
  obtain⟨rb,cap,sp⟩:=x
  obtain⟨h1,h2⟩:=h
  have hne:B≠rb:=fun e=>by subst e;rw[h1]at hB;cases hB
  refine⟨set_comm hne,⟨Xd6,h2⟩⟩
def Hu(s:ae)(B2:Nat)(l:List aa)(k:Nat)(s':ae):Prop:=∃s1 r,s1 B2=some (.cells [jk r k])/\Sub s s1/\fY s1 r (dY l k)/\s'=jb s1 r (dY l k)
def Xm{n i j:Nat}{x y:AV}{G:Gh}{W:World}{s:ae}{t:Array Value}(hij:i≠j)(hi:i<n)(hj:j<n)(hg:cE G W)(hs:bc G W s)(ht:t.size=n)(hx:view x=x/\dJ x=true)(hy:view y=y/\dJ y=true)
 (h1:∀v,t[i]? =some v->VR W G.R x v)(h2:∀v,t[j]? =some v->VR W G.R y v):Inv G n [] ⟨[(i,x),(j,y)],[],s⟩ {tmps:=t,defers:=[]} W:=by
 have lk:∀k,look [(i,x),(j,y)] k=if i=k then x else if j=k then y else .undef:=fun k=>by rw[bj,bj];rfl
 refine⟨hg,hs,ht,fun k v hk=>?_,fun k hk=>?_,fun k d hd=>?_,rfl⟩
 ·show ee G W _ t k (look [(i,x),(j,y)] k) v
  rw[lk]
  by_cases e1:i=k
  ·subst e1;rw[if_pos rfl,<-hx.1];exact ee.yG hx.2 (h1 v hk)
  ·rw[if_neg e1]
   by_cases e2:j=k
   ·subst e2;rw[if_pos rfl,<-hy.1];exact ee.yG hy.2 (h2 v hk)
   ·rw[if_neg e2];exact⟨.undef _,trivial⟩
 ·show look [(i,x),(j,y)] k=.undef
  rw[lk,if_neg AT,if_neg AT]
 ·have hd:bP (look [(i,x),(j,y)] k) d:=hd
  rw[lk]at hd
  split at hd
  ·exact(fA hx.2 d hd).elim
  ·split at hd
   ·exact(fA hy.2 d hd).elim
   ·exact hd.elim
end Go.AB
end
section
namespace Go.AB
open Go
theorem vP:∀x y:List UInt8,Op.bytesLess x y=false->Op.bytesLess y x=false->x=y
 |[],[],_,_=>rfl
 |[],_::_,h,_=>by cases h
 |_::_,[],_,h=>by cases h
 |a::x,b::y,h1,h2=>by
  rw[oz]at h1 h2
  simp only[Bool.or_eq_false_iff,decide_eq_false_iff_not,Bool.and_eq_false_iff,beq_eq_false_iff_ne,UInt8.lt_iff_toNat_lt]at h1 h2
  have hab:a=b:=UInt8.toNat_inj.1 AT
  subst hab
  rw[vP x y (h1.2.resolve_left fun h=>h rfl) (h2.2.resolve_left fun h=>h rfl)]
def ab5{x y:VL}(h1:Dp y x=false)(h2:((ix y 0).S.b==(ix x 0).S.b)=false):Dp x y=true:=by
 cases h:Dp x y with
 |true=>rfl
 |false=>
  have:=vP _ _ h1 h
  rw[this,beq_self_eq_true]at h2
  cases h2
def ab4{x y z:VL}(h1:Dp x y=true)(h2:Dp z y=false):Dp x z=true:=by
 cases h:Dp x z with
 |true=>rfl
 |false=>rw[<-h1];exact(IA.tr _ _ _ h2 h).symm▸rfl
def qa:List VL->Bool
 |x::y::t=>((ix y 0).S.b==(ix x 0).S.b)||qa (y::t)
 |_=>false
theorem P1(x y:VL)(t:List VL):qa (x::y::t)=(((ix y 0).S.b==(ix x 0).S.b)||qa (y::t)):=rfl
def strict:∀{Z:List VL},jT Dp Z->qa Z=false->Z.Pairwise fun x y=>Dp x y=true
 |[],_,_=>List.Pairwise.nil
 |[x],_,_=>List.pairwise_singleton _ _
 |x::y::t,h,ha=>by
  unfold qa at ha
  rw[Bool.or_eq_false_iff]at ha
  obtain⟨h1,h2⟩:=List.pairwise_cons.1 h
  have ih:=strict h2 ha.2
  have hxy:=ab5 (h1 y BY) ha.1
  refine List.pairwise_cons.2 ⟨fun z hz=>?_,ih⟩
  rcases List.mem_cons.1 hz with rfl|hz
  ·exact hxy
  ·exact ab4 hxy ((List.pairwise_cons.1 h2).1 z hz)
def aaE{Z W:List VL}(p:Z.Perm W)(h1:jT Dp Z)(h2:jT Dp W)(ha:qa Z=false):Z=W:=by
 have hs:=strict h1 ha
 refine List.Perm.eq_of_pairwise (le:=fun x y=>Dp y x=false) (fun a b ha hb e1 e2=>?_) h1 h2 p
 have hb:=p.mem_iff.2 hb
 have key:∀{L:List VL},L.Pairwise (fun x y=>Dp x y=true)->a∈L->b∈L->a=b:=by
  intro L
  induction L with
  |nil=>intro _ h;cases h
  |cons c L ih=>
   intro hL ha hb
   obtain⟨k1,k2⟩:=List.pairwise_cons.1 hL
   rcases List.mem_cons.1 ha with ea|ha2<;>rcases List.mem_cons.1 hb with eb|hb2
   ·rw[ea,eb]
   ·rw[<-ea]at k1;rw[k1 b hb2]at e2;cases e2
   ·rw[<-eb]at k1;rw[k1 a ha2]at e1;cases e1
   ·exact ih k2 ha2 hb2
 exact key hs ha hb
def acb(Z:List VL)(jW:∀c∈Z,0<c.length)(hl:Z.length<2^60):iter (nbB Z) 1=some (qa Z):=by
 obtain⟨o,h1,rfl⟩:=dw (body:=nbB Z) (s0:=1) (fun q=>∃i:Nat,q=(i:Int)+1/\qa (Z.drop i)=qa Z/\i<=Z.length) (fun q=>((Z.length:Int)+1 -q).toNat) (fun o=>o=qa Z)
  ⟨0,rfl,by rw[List.drop_zero],Nat.zero_le _⟩ AT (by
    rintro q ⟨i,rfl,ha,hi⟩
    unfold nbB
    by_cases h:i+1<Z.length
    ·have e1:Z.drop i=Z[i]::Z[i+1]::Z.drop (i+2):=by rw[List.drop_eq_getElem_cons AT,List.drop_eq_getElem_cons (i:=i+1) h]
     have e2:Z.drop (i+1)=Z[i+1]::Z.drop (i+2):=List.drop_eq_getElem_cons h
     have i1:ix Z ((i:Int)+1)=Z[i+1]:=by have:=gr (l:=Z) h;rw[<-this];congr 1
     have i2:ix Z ((i:Int)+1 -1)=Z[i]:=by rw[show(i:Int)+1 -1=(i:Int) by omega];exact gr AT
     rw[e1,P1]at ha
     rw[show decide ((i:Int)+1<Z.length)=true by simp;omega,cond_true,i1,i2,bk ⟨AT,AT,jW _ (List.getElem_mem _),jW _ (List.getElem_mem _)⟩]
     cases he:((ix Z[i+1] 0).S.b==(ix Z[i] 0).S.b)with
     |true=>exact⟨.inr true,rfl,by rw[<-ha,he];rfl⟩
     |false=>
      rw[he,Bool.false_or]at ha
      refine⟨.inl ((i:Int)+1+1),rfl,⟨i+1,AT,by rw[e2];exact ha,AT⟩,AT⟩
    ·rw[show decide ((i:Int)+1<Z.length)=false by simp;omega,cond_false]
     refine⟨.inr false,rfl,?_⟩
     rw[<-ha]
     rcases hd:Z.drop i with _|⟨x,t⟩
     ·rfl
     ·have:=congrArg List.length hd
      rw[List.length_drop,List.length_cons]at this
      obtain rfl:t=[]:=List.eq_nil_of_length_eq_zero AT
      rfl)
 exact h1
def Qz(x:VL):List VL->List VL
 |[]=>[x]
 |y::t=>if Dp x y then x::y::t else y::Qz x t
def zG(x:VL):∀l,(Qz x l).Perm (x::l)
 |[]=>List.Perm.refl _
 |y::t=>by
  unfold Qz
  split
  ·exact List.Perm.refl _
  ·exact((zG x t).cons y).trans (List.Perm.swap x y t)
def KQ(x:VL):∀{l},jT Dp l->jT Dp (Qz x l)
 |[],_=>jT.one x
 |y::t,h=>by
  obtain⟨h1,h2⟩:=List.pairwise_cons.1 h
  unfold Qz
  split
  ·rename_i hxy
   refine List.pairwise_cons.2 ⟨fun z hz=>?_,h⟩
   have h3:=IA.V9 _ _ hxy
   rcases List.mem_cons.1 hz with rfl|hz
   ·exact h3
   ·exact IA.tr _ _ _ h3 (h1 z hz)
  ·rename_i hxy
   refine List.pairwise_cons.2 ⟨fun z hz=>?_,KQ x h2⟩
   rcases List.mem_cons.1 ((zG x t).mem_iff.1 hz)with rfl|hz
   ·simpa using hxy
   ·exact h1 z hz
def xx(l:List VL):List VL:=l.foldr Qz []
def Am:∀l,(xx l).Perm l
 |[]=>List.Perm.refl _
 |x::l=>(zG x _).trans ((Am l).cons x)
def D1:∀l,jT Dp (xx l)
 |[]=>List.Pairwise.nil
 |x::l=>KQ x (D1 l)
def mq(l:List aa):Option (List aa×Int):=
 a8 ((l.length:Int)<2^30/\l.length % 2=0)<|
 bif qa (xx (dY l (l.length/2)))then some ([],16)else some ((xx (dY l (l.length/2))).flatten,0)
def QS{Z C:List VL}(p:Z.Perm C)(h:jT Dp Z):qa Z=qa (xx C)/\(qa Z=false->Z=xx C):=by
 have p2:Z.Perm (xx C):=p.trans (Am C).symm
 have k:qa Z=false->Z=xx C:=aaE p2 h (D1 C)
 refine⟨?_,k⟩
 cases h1:qa Z with
 |false=>rw[<-k h1,h1]
 |true=>
  cases h2:qa (xx C)with
  |true=>rfl
  |false=>
   have:=aaE p2.symm (D1 C) h h2
   rw[this,h1]at h2;cases h2
end Go.AB
end
section
set_option maxRecDepth 4000
namespace Go.AB
open Go
open Go.Proofs.Tryz (prog)
attribute[-go_sem] Nat.add_zero mO cF cj cS bK ch
def Uh{α:Type}{c:Prop}[Decidable c]{o:Option α}{r:α}(h:a8 c o=some r):c/\o=some r:=by
 by_cases hc:c
 ·rw[bk hc]at h;exact⟨hc,h⟩
 ·unfold a8 at h
  rw[if_neg hc]at h;cases h
def LC{s s1:ae}{B2 rb cap:Nat}{sp:List AV}{ls:List VL}{Q:List AV->ae->Prop}(hB:s1 B2=some (.cells [.arr rb 0 ls.length cap]))(hrb:s1 rb=none)(hs:Sub s s1)(hl:(ls.length:Int)<2^40)(hz:∀c∈ls,0<c.length)(hfl:ls.flatten.length*56<=room)
 (q1:qa (xx ls)=true->∀s',Sub s s'->Q [.sl false 4 0 [],.int .i64 16] s')(q0:qa (xx ls)=false->∀s',Sub s s'->Q [.sl false 4 (xx ls).flatten.length (flat (xx ls).flatten),.int .i64 0] s'):
 fW prog oO (xq iD Q) ⟨[(4,.ref B2 0)],[],s1.set rb (.cells (flat ls++sp))⟩:=by
 have cg:room=140737488355328:=rfl
 have hne:B2≠rb:=fun e=>by subst e;rw[hrb]at hB;cases hB
 have hB':∀cs,(s1.set rb (.cells cs)) B2=some (.cells [.arr rb 0 ls.length cap]):=fun cs=>by rw[ai hne];exact hB
 rw[oO,iD]
 refine Xf7 ?_
 refine Xg0 hB' ?_
 refine Ve AT hz fun two p1 s1'=>?_
 have hlen:=p1.length_eq
 have jW:∀c∈two,0<c.length:=fun c hc=>hz c (p1.mem_iff.1 hc)
 obtain⟨ka,kb⟩:=QS p1 s1'
 have alU:two.flatten.length=ls.flatten.length:=p1.flatten.length_eq
 have hn:ok (iter (nbB two) 1) fun d=>(d=true->∀s',Sub s s'->Q [.sl false 4 0 [],.int .i64 16] s')/\(d=false->∀s',Sub s s'->Q [.sl false 4 two.flatten.length (flat two.flatten),.int .i64 0] s'):=⟨_,acb two jW AT,fun e=>q1 (ka▸e),fun e=>by rw[kb e];exact q0 (ka▸e)⟩
 rw[<-hlen]
 rw[<-hlen]at hB' hl
 refine Xe2 ?_
 refine cX (fun(i:Int)=>(⟨[(4,.ref B2 0),(6,.int .i64 i)],[],s1.set rb (.cells (flat two++sp))⟩:St)) rfl ?_ hn
 ·intro J i hb
  unfold nbB at hb
  cases hlt:decide (i<two.length)with
  |false=>
   rw[hlt,cond_false,bJ]at hb
   refine Xe9 hB' hlt ?_
   simp only[xR]at hb
   refine Qi hrb jW AT AT fun s' r' hs' hr'=>?_
   refine Xe2 ?_
   refine Ib rfl hr' rfl ?_
   refine Xe2 ?_
   exact hb.2 trivial s' fun b o h=>hs' b o ((hs.set hrb) b o h)
  |true=>
   rw[hlt,cond_true,fO]at hb
   obtain⟨⟨h1,h2,h3,h4⟩,hb⟩:=hb
   have hi:i<two.length:=g_
   obtain⟨r1,r2⟩:=Q4 two sp (j:=i) AT hi
   obtain⟨r3,r4⟩:=Q4 two sp (j:=i -1) AT AT
   have w1:aC (i -1)=i -1:=an AT AT
   have w2:aC (i+1)=i+1:=an AT AT
   generalize hcs:flat two++sp=cs at*
   have d1:=decide_eq_true r1
   have d3:=decide_eq_true r3
   refine Xh3 hB' hlt w1 w2 r2 r4 d1 d3 ?_
   refine⟨⟨AT,hi⟩,⟨Int.le_refl _,AT⟩,⟨AT,AT⟩,⟨Int.le_refl _,AT⟩,fun he=>?_,fun he=>?_⟩
   ·rw[he,cond_true,bJ]at hb
    simp only[xR]at hb
    exact hb.1 trivial _ (hs.set hrb)
   ·rw[he,cond_false,bJ]at hb
    exact hb
def NK{s:ae}{B2:Nat}{l:List aa}{k:Nat}{s':ae}(hs0:s B2=none)(hk:k<2^36)(hch:(jH l k).length=2)(h:Hu s B2 l k s'):
 swp prog (Ty wZ) ⟨[(4,.ref B2 0),(5,rJ (jH l k))],[],s'⟩ fun E'=>Hu s B2 l (k+1) E'.s:=by
 have cg:room=140737488355328:=rfl
 obtain⟨s1,r,h1,h2,h3,rfl⟩:=h
 have hB:jb s1 r (dY l k) B2=some (.cells [jk r k]):=jR h3 h1
 have hkl:(dY l k).length=k:=AA l k
 generalize eJ:jb s1 r (dY l k)=st at hB
 rw[wZ]
 refine Xf7 ?_
 rw[Ty]
 unfold rJ
 refine Xg0 hB ?_
 rw[gl]
 have fin:=xH (E:=?_) (d:=?_) (K:=?_) (by':=24) (s:=s1) (r:=r) (l:=dY l k) (z:=([]:VL)) (v:=(jH l k:VL)) (sz:=1) ?_ h3 rfl (by rw[hkl];omega) ?_
 ·rw[hkl]at fin
  exact fin
 ·exact eJ.symm
 ·intro s2 r' g1 g2
  have hB2:s2 B2=some (.cells [jk r k]):=g1 _ _ h1
  have hB3:jb s2 r' (dY l k++[jH l k]) B2=some (.cells [jk r k]):=jR g2 hB2
  rw[hkl]
  generalize Tu:jb s2 r' (dY l k++[jH l k])=st2 at hB3
  refine Xg0 hB3 ?_
  obtain⟨q1,q2⟩:=U5 (o':=.cells [jk r' (k+1)]) g2 hB2
  refine⟨s2.set B2 (.cells [jk r' (k+1)]),r',cD ..,fun b o hb=>?_,?_,?_⟩
  ·have hne:b≠B2:=fun e=>by subst e;rw[hs0]at hb;cases hb
   rw[ai hne]
   exact g1 _ _ (h2 _ _ hb)
  ·rw[nH];exact q2
  ·rw[nH,<-Tu];exact q1
def QR{l:List aa}{r:List aa×Int}{s:ae}(hl0:0<l.length)(h:mq l=some r):FE prog 218 [rJ l] s [.sl false 4 r.1.length (flat r.1),.int .i64 r.2] s:=by
 have cg:room=140737488355328:=rfl
 unfold mq at h
 obtain⟨⟨alW,hl2⟩,h⟩:=Uh h
 obtain⟨K,hK⟩:∃K,l.length=2*K:=⟨l.length/2,AT⟩
 have hK2:l.length/2=K:=AT
 rw[hK2]at h
 have jW:∀c∈dY l K,0<c.length:=fun c hc=>by
  unfold dY at hc
  obtain⟨k,hk,rfl⟩:=List.mem_map.1 hc
  rw[oC l k (by have:=List.mem_range.1 hk;omega)];decide
 have afO:∀k,2*k<=l.length->(dY l k).flatten.length=2*k:=fun k=>by
  induction k with
  |zero=>intro _;rfl
  |succ k ih=>
   intro hk
   rw[nH,List.flatten_append,List.length_append,ih AT]
   simp[oC l k AT]
   omega
 have SZ:(dY l K).length=K:=AA l K
 refine FN.j4 ?_
 intro G w vs hg ho hs ha
 have hI:=rv (n:=40) hg hs ha D_ (show 1<=40 by decide)
 refine callsIn_wide.1 (callsIn_of_wp_marks (n:=3) Go.Proofs.Tryz.func218 DB trivial ?_ rfl)
 rw[LA]
 have mixed:=mix
 refine piece (kH mix) DC hI (aI.refl G w) (fun E'=>E'=⟨[(0,rJ l)],[],s⟩) ?_ ?_
 ·rw[wW];(conv in dec _=>reduce);unfold rJ
  exact Xf6
 rintro G1 σ1 a1 w1 hI1 hp1 rfl
 refine piece (kH mix) DD hI1 hp1 (fun E'=>∃B2,s B2=none/\E'=⟨[(0,rJ l),(4,.ref B2 0)],[],s.set B2 (.cells [.arr 0 0 0 0])⟩) ?_ ?_
 ·rw[wX];(conv in dec _=>reduce);unfold rJ
  refine Xe2 ?_
  intro B2 hB2
  exact⟨B2,hB2,rfl⟩
 rintro G2 σ2 a2 w2 hI2 hp2 ⟨B2,hB2,rfl⟩
 refine wpIn_seq (piece (kH mix) DE hI2 hp2 (fun E'=>∃Bs,(s.set B2 (.cells [.arr 0 0 0 0])) Bs=none/\∃Bn,((s.set B2 (.cells [.arr 0 0 0 0])).set Bs (.cells [rJ l])) Bn=none/\
  E'=⟨[(4,.ref B2 0),(8,.fn 276 [] [.ref Bs 0,.ref Bn 0])],[],((s.set B2 (.cells [.arr 0 0 0 0])).set Bs (.cells [rJ l])).set Bn (.cells [.int .i64 2])⟩) ?_ ?_)
 ·rw[wY];(conv in dec _=>reduce);unfold rJ
  refine Xe2 ?_
  refine Ka fun Bs h1 Bn h2=>?_
  refine Xe2 ?_
  exact⟨Bs,h1,Bn,h2,rfl⟩
 rintro G3 σ3 a3 w3 hI3 hp3 ⟨Bs,hBs,Bn,hBn,rfl⟩
 have n1:=hBs
 rw[fB]at n1
 have n2:=hBn
 rw[fB]at n2
 have n3:=n2.2
 rw[fB]at n3
 have hsz:=hI3.size
 have e8:a3.tmps[8]? =some (a3.eval (.tmp 8)):=gy i_
 have e4:a3.tmps[4]? =some (a3.eval (.tmp 4)):=gy i_
 have v8:VR w3 G3.R (.fn 276 [] [.ref Bs 0,.ref Bn 0]) (a3.eval (.tmp 8)):=(hI3.cG 8 _ e8).1
 have v4:VR w3 G3.R (.ref B2 0) (a3.eval (.tmp 4)):=(hI3.cG 4 _ e4).1
 obtain⟨vf,vc,hv8,hvf,_,hvc,Ih⟩:=VR.Im v8
 obtain rfl:vf= #[]:=Array.eq_empty_of_size_eq_zero hvf
 obtain rfl:vc= #[.pointer (some ⟨Bs,0,none⟩),.pointer (some ⟨Bn,0,none⟩)]:=by
  obtain⟨vl⟩:=vc
  match vl,hvc,Ih with
  |[x,y],_,Ih=>rw[VR.gk (Ih 0 _ x rfl rfl),VR.gk (Ih 1 _ y rfl rfl)]
 have hBx:(((s.set B2 (.cells [.arr 0 0 0 0])).set Bs (.cells [rJ l])).set Bn (.cells [.int .i64 2])) Bs=some (.cells [rJ l]):=by rw[ai n2.1.symm,cD]
 have hBy:(((s.set B2 (.cells [.arr 0 0 0 0])).set Bs (.cells [rJ l])).set Bn (.cells [.int .i64 2])) Bn=some (.cells [.int .i64 2]):=cD ..
 obtain⟨hOs,_,cs,ts,hhs,⟨abo,abp⟩,_⟩:=hI3.store Bs _ hBx
 obtain⟨hOn,_,cn,tn,hhn,⟨abl,abm⟩,_⟩:=hI3.store Bn _ hBy
 obtain⟨x,rfl⟩:∃x,cs= #[x]:=by
  obtain⟨cl⟩:=cs
  match cl,abo with
  |[x],_=>exact⟨x,rfl⟩
 obtain⟨y,rfl⟩:∃y,cn= #[y]:=by
  obtain⟨cl⟩:=cn
  match cl,abl with
  |[x],_=>exact⟨x,rfl⟩
 have hx:VR w3 G3.R (rJ l) x:=(abp 0 _ x rfl rfl).1
 have hy:y=.int .i64 2:=VR.cu (abm 0 _ y rfl rfl).1
 subst hy
 unfold rJ at hx
 rcases VR.gq hx with⟨_,he,_⟩|⟨b,off,cap,rfl,hlen,hRb,fI,hat⟩
 ·exact absurd he AT
 refine wpIn_block ?_
 rw[Za,RV]
 let tA:Nat->Array Value:=fun k=>a3.tmps.setIfInBounds 9 (fH b off k)
 have Tf:∀k,((#[9]:Array Tmp).zip #[fH b off k]).foldl (fun t(p,v)=>t.setIfInBounds p v) a3.tmps=tA k:=fun k=>by simp[tA]
 have hav:∀k,k<K->VR w3 G3.R (rJ (jH l k)) (fH b off k):=fun k hk=>Sb hRb hat AT
 refine aar hI3 hv8 (fun args w=>lS Go.Proofs.Tryz.func276 B_ B_ args) (K:=K) (lU:=fH b off) (avs:=fun k=>rJ (jH l k)) (S:=Hu s B2 l) [Bs,Bn] ?_ hav ?_ (fun k=>({tmps:=tA k,defers:=[]}:Act).put (some 5) (fH b off k)) ?_ ?_ ?_ ?_
 ·intro b' hb'
  simp only[List.mem_cons,List.not_mem_nil,or_false]at hb'
  rcases hb' with rfl|rfl
  ·exact mT.2 hOs
  ·exact mT.2 hOn
 ·refine⟨_,none,?_,fun b' o hb'=>?_,rfl,rfl⟩
  ·show(if B2∈[Bs,Bn]then none else(((s.set B2 (.cells [.arr 0 0 0 0])).set Bs (.cells [rJ l])).set Bn (.cells [.int .i64 2])) B2)=_
   rw[if_neg (by simp only[List.mem_cons,List.not_mem_nil,or_false,not_or];exact⟨n1.1.symm,n3.1.symm⟩),ai n3.1.symm,ai n1.1.symm,cD]
   rfl
  ·have e1:b'≠B2:=fun e=>by subst e;rw[hB2]at hb';cases hb'
   have e2:b'≠Bs:=fun e=>by subst e;rw[n1.2]at hb';cases hb'
   have e3:b'≠Bn:=fun e=>by subst e;rw[n3.2]at hb';cases hb'
   show(if b'∈[Bs,Bn]then none else(((s.set B2 (.cells [.arr 0 0 0 0])).set Bs (.cells [rJ l])).set Bn (.cells [.int .i64 2])) b')=_
   rw[if_neg (by simp only[List.mem_cons,List.not_mem_nil,or_false,not_or];exact⟨e2,e3⟩),ai e3,ai e2,ai e1]
   exact hb'
 ·intro lo J W hbx hdr hY h0
  have c1:w3.cell? ⟨Bs,0,none⟩=some (.slice (some ⟨b,off,none⟩) (2*K) cap):=by rw[<-hK];simp[World.cell?,hhs]
  have c2:w3.cell? ⟨Bn,0,none⟩=some (.int .i64 2):=by simp[World.cell?,hhn]
  exact Qd (lo:=lo) (Bs:=Bs) (Bn:=Bn) (b:=b) (off:=off) (K:=K) (cap:=cap) AT AT (fun k W h=>⟨(World.cell?_of_block (hbx k W h Bs BY)).trans c1,(World.cell?_of_block (hbx k W h Bn BY)).trans c2⟩) hdr hY h0
 ·intro lo k W K' hk
  rw[Tf]
  have hev:({tmps:=tA k,defers:=[]}:Act).eval (.tmp 9)=fH b off k:=by
   show(a3.tmps.setIfInBounds 9 (fH b off k)).getD 9 undef=_
   rw[Array.getD_eq_getD_getElem?,Array.getElem?_setIfInBounds_self_of_lt i_]
   rfl
  refine wpIn_region_list (wpListIn_plain rfl fun K2 hK2=>⟨fun _ _=>trivial,?_⟩)
  rw[<-hev]at hk
  exact hK2 _ _ hk
 ·intro k hk lo G' W s' g1 g2 g3 hS hv R hR
  refine U4 NL Lz (Xm (n:=40) (i:=4) (j:=5) (x:=.ref B2 0) (y:=rJ (jH l k)) (t:=(tA k).setIfInBounds 5 (fH b off k)) By By By g1 g3 ?_ ⟨rfl,rfl⟩ ⟨rfl,rfl⟩ ?_ ?_) (NK hB2 AT (oC l k AT) hS) hR
  ·show((a3.tmps.setIfInBounds 9 _).setIfInBounds 5 _).size=_
   rw[Array.size_setIfInBounds,Array.size_setIfInBounds,hsz]
  ·intro v hv4
   have hv4:((a3.tmps.setIfInBounds 9 (fH b off k)).setIfInBounds 5 (fH b off k))[4]? =some v:=hv4
   rw[Array.getElem?_setIfInBounds_ne By,Array.getElem?_setIfInBounds_ne By,e4,VR.gk v4]at hv4
   injection hv4 with hv4
   rw[<-hv4]
   exact .ref _ _
  ·intro v hv5
   have hv5:((a3.tmps.setIfInBounds 9 (fH b off k)).setIfInBounds 5 (fH b off k))[5]? =some v:=hv5
   rw[Array.getElem?_setIfInBounds_self_of_lt (by rw[Array.size_setIfInBounds,hsz];decide)]at hv5
   injection hv5 with hv5
   rw[<-hv5]
   exact hv
 ·intro G4 W4 s4 hS hI4 hp4 ajA
  obtain⟨s1,r1,h1,h2,h3,rfl⟩:=hS
  obtain⟨rb,alG,sp,rfl⟩:=NY h3 (by rw[SZ];omega)
  have hlt:w3.heap.size<(w3.alloc (.deferred (some []))).heap.size:=by rw[World.size_alloc];omega
  refine last (kH mix) DF (hI4.xb [4]) hp4 (xq iD fun rs s''=>∃s2,Sub s2 s''/\(rs=[.sl false 4 r.1.length (flat r.1),.int .i64 r.2]/\s2=s)) ?_ ?_
  ·refine LC (s:=s) (by rw[SZ];exact h1) h3.1 h2 (by rw[SZ];omega) jW (by rw[afO K AT];omega) (fun e s' hs'=>?_) (fun e s' hs'=>?_)
   ·rw[e,cond_true]at h
    cases h
    exact⟨s,hs',rfl,rfl⟩
   ·rw[e,cond_false]at h
    cases h
    exact⟨s,hs',rfl,rfl⟩
  ·intro x G5 E' a' W5 k1 k2 k3
   have oL:∀(eo:rP (lj E' iD)=true)(hq:∃s2,Sub s2 E'.s/\(lj E' iD=[.sl false 4 r.1.length (flat r.1),.int .i64 r.2]/\s2=s)),_:=fun eo hq=>LR (Q:=fun rs s''=>∃s2,Sub s2 s''/\(rs=[.sl false 4 r.1.length (flat r.1),.int .i64 r.2]/\s2=s)) GV k1 ((hp3.trans (fS hI3.aZ _ .frame 0).2.1).trans k2) (k2.j8 _ hlt BY).1 ((k2.j8 _ hlt BY).2.trans BY) ((k2.frame _ hlt (.inl BY)).trans (World.alloc_heap_new w3 _)) hp3.size eo hq
   cases x with
   |ret=>exact oL k3.1 k3.2
   |normal=>exact oL k3.1 k3.2
   |_=>exact k3.elim
def MI{s:ae}{Q:List AV->ae->Prop}(hq:∀s' r',Sub s s'->fY s' r' ([]:List aa)->Q [jk r' 0] (jb s' r' ([]:List aa))):FN prog 252 [.arr 0 0 0 0] s Q:=by
 have cg:room=140737488355328:=rfl
 refine FO Gt rfl rfl ?_
 rw[zJ]
 refine Xf7 ?_
 have h1:decide ((0:Int)<0)=false:=rfl
 refine Xe2 ?_
 refine iY 0 (fun _ τ=>τ=(⟨[(0,.arr 0 0 0 0),(3,.int .i64 0),(9,.arr 0 0 0 0),(10,.int .i64 0),(11,.int .i64 0)],[],s⟩:St)) By rfl (fun k hk=>AT) ?_
 rintro J τ rfl
 refine Xe3 h1 ?_
 refine OZ (k:=0) AT fun s1 r1 hs1 hr1=>?_
 refine Xe5 ?_
 refine iY 0 (fun _ τ=>τ=(⟨[(6,jk r1 0),(25,.arr 0 0 0 0),(26,.int .i64 0),(27,.int .i64 0)],[],jb s1 r1 ([]:List aa)⟩:St)) By ?_ (fun k hk=>AT) ?_
 ·first|rfl|trace_state
 rintro J τ rfl
 refine Xe3 h1 ?_
 exact hq s1 r1 hs1 hr1
def LB{s s1:ae}{B2:Nat}{Q:List AV->ae->Prop}(hB:s1 B2=some (.cells [.arr 0 0 0 0]))(hs:Sub s s1)(q0:∀s',Sub s s'->Q [.sl false 4 0 [],.int .i64 0] s'):
 fW prog oO (xq iD Q) ⟨[(4,.ref B2 0)],[],s1⟩:=by
 rw[oO,iD]
 refine Xf7 ?_
 have h1:decide ((1:Int)<0)=false:=rfl
 refine Xg0 hB ?_
 refine Vd ?_
 refine Xe5 ?_
 refine iY 0 (fun _ τ=>τ=(⟨[(4,.ref B2 0),(6,.int .i64 1)],[],s1⟩:St)) By rfl (fun k hk=>AT) ?_
 rintro J τ rfl
 refine Xe9 hB h1 ?_
 refine MI fun s' r' hs' hr'=>?_
 refine Xe5 ?_
 refine Ib rfl hr' rfl ?_
 refine Xe5 ?_
 exact q0 s' fun b o h=>hs' b o (hs b o h)
end Go.AB
end
section
set_option maxRecDepth 4000
namespace Go.AB
open Go Go.Proofs Go.RowKit
open Go.Proofs.Tryz (prog)
attribute[local go_sem] Oper.semAt_some
set_option maxHeartbeats 2000000 in
def Qc{lo Bs Bn cap:Nat}{pt:Option Addr}{J:World->Prop}{W:World}(WT:∀W,J W->W.cell? ⟨Bs,0,none⟩=some (.slice pt 0 cap)/\W.cell? ⟨Bn,0,none⟩=some (.int .i64 2))(hd:∀W,J W->J W.drew)(h0:J W):
 CallsIn Fence.wide 2 prog 276 #[.func (.yield lo) #[] #[],.pointer (some ⟨Bs,0,none⟩),.pointer (some ⟨Bn,0,none⟩)] W fun e W'=>(∃v,e=.returned v)/\J W':=by
 have mixed:=mix
 refine callsIn_of_wp Go.Proofs.Tryz.func276 rfl trivial ?_ rfl
 simp only[show Go.Proofs.Tryz.f276.ntmps=31 from rfl,List.size_toArray,List.length_cons,List.length_nil,Nat.reduceAdd,Nat.reduceSub,Array.replicate_succ,Array.replicate_zero,List.push_toArray,List.append_toArray,List.nil_append,List.cons_append]
 gi_wp2
 gi_loopw [4] (fun i wr=>i=.int .i64 0/\J wr) (fun _ _=>0)
 case atStart=>exact⟨rfl,h0⟩
 case round=>
  obtain⟨rfl,hJ⟩:=hrel
  obtain⟨hb1,hb2⟩:=WT _ hJ
  gi_wp2
  go_end0
  exact⟨⟨_,rfl⟩,hJ⟩
end Go.AB
end
section
set_option maxRecDepth 4000
namespace Go.AB
open Go
open Go.Proofs.Tryz (prog)
attribute[-go_sem] Nat.add_zero mO cF cj cS bK ch
def QQ{s:ae}:FE prog 218 [rJ []] s [.sl false 4 0 [],.int .i64 0] s:=by
 have cg:room=140737488355328:=rfl
 refine FN.j4 ?_
 intro G w vs hg ho hs ha
 have hI:=rv (n:=40) hg hs ha D_ (show 1<=40 by decide)
 refine callsIn_wide.1 (callsIn_of_wp_marks (n:=3) Go.Proofs.Tryz.func218 DB trivial ?_ rfl)
 rw[LA]
 have mixed:=mix
 refine piece (kH mix) DC hI (aI.refl G w) (fun E'=>E'=⟨[(0,rJ [])],[],s⟩) ?_ ?_
 ·rw[wW];(conv in dec _=>reduce);unfold rJ
  exact Xf6
 rintro G1 σ1 a1 w1 hI1 hp1 rfl
 refine piece (kH mix) DD hI1 hp1 (fun E'=>∃B2,s B2=none/\E'=⟨[(0,rJ []),(4,.ref B2 0)],[],s.set B2 (.cells [.arr 0 0 0 0])⟩) ?_ ?_
 ·rw[wX];(conv in dec _=>reduce);unfold rJ
  refine Xe2 ?_
  intro B2 hB2
  exact⟨B2,hB2,rfl⟩
 rintro G2 σ2 a2 w2 hI2 hp2 ⟨B2,hB2,rfl⟩
 refine wpIn_seq (piece (kH mix) DE hI2 hp2 (fun E'=>∃Bs,(s.set B2 (.cells [.arr 0 0 0 0])) Bs=none/\∃Bn,((s.set B2 (.cells [.arr 0 0 0 0])).set Bs (.cells [rJ []])) Bn=none/\
  E'=⟨[(4,.ref B2 0),(8,.fn 276 [] [.ref Bs 0,.ref Bn 0])],[],((s.set B2 (.cells [.arr 0 0 0 0])).set Bs (.cells [rJ []])).set Bn (.cells [.int .i64 2])⟩) ?_ ?_)
 ·rw[wY];(conv in dec _=>reduce);unfold rJ
  refine Xe2 ?_
  refine Ka (l:=[]) fun Bs h1 Bn h2=>?_
  refine Xe2 ?_
  exact⟨Bs,h1,Bn,h2,rfl⟩
 rintro G3 σ3 a3 w3 hI3 hp3 ⟨Bs,hBs,Bn,hBn,rfl⟩
 have n1:=hBs
 rw[fB]at n1
 have n2:=hBn
 rw[fB]at n2
 have n3:=n2.2
 rw[fB]at n3
 have hsz:=hI3.size
 have e8:a3.tmps[8]? =some (a3.eval (.tmp 8)):=gy i_
 have e4:a3.tmps[4]? =some (a3.eval (.tmp 4)):=gy i_
 have v8:VR w3 G3.R (.fn 276 [] [.ref Bs 0,.ref Bn 0]) (a3.eval (.tmp 8)):=(hI3.cG 8 _ e8).1
 have v4:VR w3 G3.R (.ref B2 0) (a3.eval (.tmp 4)):=(hI3.cG 4 _ e4).1
 obtain⟨vf,vc,hv8,hvf,_,hvc,Ih⟩:=VR.Im v8
 obtain rfl:vf= #[]:=Array.eq_empty_of_size_eq_zero hvf
 obtain rfl:vc= #[.pointer (some ⟨Bs,0,none⟩),.pointer (some ⟨Bn,0,none⟩)]:=by
  obtain⟨vl⟩:=vc
  match vl,hvc,Ih with
  |[x,y],_,Ih=>rw[VR.gk (Ih 0 _ x rfl rfl),VR.gk (Ih 1 _ y rfl rfl)]
 have hBx:(((s.set B2 (.cells [.arr 0 0 0 0])).set Bs (.cells [rJ []])).set Bn (.cells [.int .i64 2])) Bs=some (.cells [rJ []]):=by rw[ai n2.1.symm,cD]
 have hBy:(((s.set B2 (.cells [.arr 0 0 0 0])).set Bs (.cells [rJ []])).set Bn (.cells [.int .i64 2])) Bn=some (.cells [.int .i64 2]):=cD ..
 obtain⟨hOs,_,cs,ts,hhs,⟨abo,abp⟩,_⟩:=hI3.store Bs _ hBx
 obtain⟨hOn,_,cn,tn,hhn,⟨abl,abm⟩,_⟩:=hI3.store Bn _ hBy
 obtain⟨x,rfl⟩:∃x,cs= #[x]:=by
  obtain⟨cl⟩:=cs
  match cl,abo with
  |[x],_=>exact⟨x,rfl⟩
 obtain⟨y,rfl⟩:∃y,cn= #[y]:=by
  obtain⟨cl⟩:=cn
  match cl,abl with
  |[x],_=>exact⟨x,rfl⟩
 have hx:VR w3 G3.R (rJ []) x:=(abp 0 _ x rfl rfl).1
 have hy:y=.int .i64 2:=VR.cu (abm 0 _ y rfl rfl).1
 subst hy
 unfold rJ at hx
 obtain⟨pt,cap,rfl⟩:∃pt cap,x=.slice pt 0 cap:=by
  rcases VR.gq hx with⟨he,_,_⟩|⟨b,off,cap,rfl,_,_,_,_⟩
  ·exact he.ex
  ·exact⟨_,_,rfl⟩
 have Tf:((#[9]:Array Tmp).zip #[undef]).foldl (fun t(p,v)=>t.setIfInBounds p v) a3.tmps=a3.tmps.setIfInBounds 9 undef:=BY
 refine wpIn_block ?_
 rw[Za,RV]
 refine aar hI3 hv8 (fun args w=>lS Go.Proofs.Tryz.func276 B_ B_ args) (K:=0) (lU:=fun _=>undef) (avs:=fun _=>.undef) (S:=fun _ s'=>s' B2=some (.cells [.arr 0 0 0 0])/\Sub s s') [Bs,Bn] ?_ (fun k hk=>AT) ?_ (fun k=>({tmps:=a3.tmps.setIfInBounds 9 undef,defers:=[]}:Act).put (some 5) undef) ?_ ?_ (fun k hk=>AT) ?_
 ·intro b' hb'
  simp only[List.mem_cons,List.not_mem_nil,or_false]at hb'
  rcases hb' with rfl|rfl
  ·exact mT.2 hOs
  ·exact mT.2 hOn
 ·refine⟨?_,fun b' o hb'=>?_⟩
  ·show(if B2∈[Bs,Bn]then none else(((s.set B2 (.cells [.arr 0 0 0 0])).set Bs (.cells [rJ []])).set Bn (.cells [.int .i64 2])) B2)=_
   rw[if_neg (by simp only[List.mem_cons,List.not_mem_nil,or_false,not_or];exact⟨n1.1.symm,n3.1.symm⟩),ai n3.1.symm,ai n1.1.symm,cD]
  ·have e1:b'≠B2:=fun e=>by subst e;rw[hB2]at hb';cases hb'
   have e2:b'≠Bs:=fun e=>by subst e;rw[n1.2]at hb';cases hb'
   have e3:b'≠Bn:=fun e=>by subst e;rw[n3.2]at hb';cases hb'
   show(if b'∈[Bs,Bn]then none else(((s.set B2 (.cells [.arr 0 0 0 0])).set Bs (.cells [rJ []])).set Bn (.cells [.int .i64 2])) b')=_
   rw[if_neg (by simp only[List.mem_cons,List.not_mem_nil,or_false,not_or];exact⟨e2,e3⟩),ai e3,ai e2,ai e1]
   exact hb'
 ·intro lo J W hbx hdr hY h0
  have c1:w3.cell? ⟨Bs,0,none⟩=some (.slice pt 0 cap):=by simp[World.cell?,hhs]
  have c2:w3.cell? ⟨Bn,0,none⟩=some (.int .i64 2):=by simp[World.cell?,hhn]
  exact Qc (lo:=lo) (Bs:=Bs) (Bn:=Bn) (J:=J 0) (fun W h=>⟨(World.cell?_of_block (hbx 0 W h Bs BY)).trans c1,(World.cell?_of_block (hbx 0 W h Bn BY)).trans c2⟩) (fun W h=>hdr 0 W h) h0
 ·intro lo k W K' hk
  rw[Tf]
  have hev:({tmps:=a3.tmps.setIfInBounds 9 undef,defers:=[]}:Act).eval (.tmp 9)=undef:=by
   show(a3.tmps.setIfInBounds 9 (undef)).getD 9 undef=_
   rw[Array.getD_eq_getD_getElem?,Array.getElem?_setIfInBounds_self_of_lt i_]
   rfl
  refine wpIn_region_list (wpListIn_plain rfl fun K2 hK2=>⟨fun _ _=>trivial,?_⟩)
  have hk2:K' (({tmps:=a3.tmps.setIfInBounds 9 undef,defers:=[]}:Act).put (some 5) (({tmps:=a3.tmps.setIfInBounds 9 undef,defers:=[]}:Act).eval (.tmp 9))) W:=by rw[hev];exact hk
  exact hK2 _ _ hk2
 ·intro G4 W4 s4 hS hI4 hp4 ajA
  obtain⟨h1,h2⟩:=hS
  have hlt:w3.heap.size<(w3.alloc (.deferred (some []))).heap.size:=by rw[World.size_alloc];omega
  refine last (kH mix) DF (hI4.xb [4]) hp4 (xq iD fun rs s''=>∃s2,Sub s2 s''/\(rs=[.sl false 4 0 [],.int .i64 0]/\s2=s)) ?_ ?_
  ·exact LB (s:=s) h1 h2 fun s' hs'=>⟨s,hs',rfl,rfl⟩
  ·intro x G5 E' a' W5 k1 k2 k3
   have oL:∀(eo:rP (lj E' iD)=true)(hq:∃s2,Sub s2 E'.s/\(lj E' iD=[.sl false 4 0 [],.int .i64 0]/\s2=s)),_:=fun eo hq=>LR (Q:=fun rs s''=>∃s2,Sub s2 s''/\(rs=[.sl false 4 0 [],.int .i64 0]/\s2=s)) GV k1 ((hp3.trans (fS hI3.aZ _ .frame 0).2.1).trans k2) (k2.j8 _ hlt BY).1 ((k2.j8 _ hlt BY).2.trans BY) ((k2.frame _ hlt (.inl BY)).trans (World.alloc_heap_new w3 _)) hp3.size eo hq
   cases x with
   |ret=>exact oL k3.1 k3.2
   |normal=>exact oL k3.1 k3.2
   |_=>exact k3.elim
end Go.AB
end
section
namespace Go.AB
open Go
open Go.Proofs.Tryz (prog)
def UB:xF mq:=fun s l r h=>by
 cases l with
 |nil=>
  have e:mq []=some ([],0):=rfl
  rw[e]at h;cases h
  exact QQ
 |cons x l=>exact QR BY h
def lg(b:List UInt8)(a:Int)(last:Bool):Option (aa×Int×Int):=sq mq b a last
def DG{b:List UInt8}{a:Int}{last:Bool}{s:ae}{r:aa×Int×Int}(h:lg b a last=some r):FE prog 127 [.sl false 1 b.length (flat b),.int .i64 a,.bool last] s
 [.agg [.int .i64 r.1.Kind,.int .i64 r.1.N,.str r.1.S.b,.sl false 4 r.1.L.length (flat r.1.L)],.int .i64 r.2.1,.int .i64 r.2.2] s:=
 FN.j4 (VC UB ⟨r,h,fun s' hs=>⟨s,hs,rfl,rfl⟩⟩)
end Go.AB
end
section
end
section
set_option maxRecDepth 16000
namespace Go.AB
open Go
open Go.Proofs.Tryz (prog)
attribute[-go_sem] cj cS bK ch
structure cw where
 b_:(List UInt8)
 at_:Int
 aU:Bool
instance:aP cw:=⟨3,fun x=>[sF 1 x.b_,.int .i64 x.at_,.bool x.aU],(cw.mk [] 0 false),By,fun _=>rfl,fun _=>rfl⟩
structure af where
 aB:cw
 e_:Int
instance:aP af:=⟨4,fun x=>[sF 1 x.aB.b_,.int .i64 x.aB.at_,.bool x.aB.aU,.int .i64 x.e_],(af.mk (cw.mk [] 0 false) 0),By,fun _=>rfl,fun _=>rfl⟩
@[go_sem]abbrev Cv(x:af):List AV:=[sF 1 x.aB.b_,.int .i64 x.aB.at_,.bool x.aB.aU,.int .i64 x.e_]
def ay(r_0:af)(e_1:Int):Option (af):=
 if r_0.e_==0 then
  some (af.mk r_0.aB e_1)
 else
  some r_0
def du{r_0 e_1}{B0:Nat}{s:ae}{Q:List AV->ae->Prop}(hB0:s B0=some (.cells (Cv r_0))):ok (ay r_0 e_1) (fun r=>Q [] (s.set B0 (.cells (Cv r))))->FN prog 133 [.ref B0 0,.int .i64 e_1] s Q:=by
 rw[<-bq hB0]
 exact FC 13 [] 0x189bdb57b00e5a903755b8efcb9da2151040493de27b2139453e ay.eq_1
def aD(r_0:af)(w_1:aO):Option (af):=
 if r_0.e_ !=0 then
  some r_0
 else
  aQ (mr r_0.aB.b_ r_0.aB.at_ r_0.aB.aU w_1) fun r1=>
  some (af.mk (cw.mk r_0.aB.b_ r1.1 r_0.aB.aU) r1.2)
def jJ{r_0 w_1}{B0:Nat}{s:ae}{Q:List AV->ae->Prop}(hB0:s B0=some (.cells (Cv r_0))):ok (aD r_0 w_1) (fun r=>Q [] (s.set B0 (.cells (Cv r))))->FN prog 101 [.ref B0 0,.str w_1.b] s Q:=by
 rw[<-bq hB0]
 refine FR 36 [] 0x881e724e8b4cc9e80c3880ce5966b8360d4d79d7baadd21832219e8accbc2086dfeb231f7ced17c2d766731c2fb33c89931c3fffcda16ccbf3744abf025168cd3dcad4c439e834f3c3834c1a06805dbd9364cdd1ee6c04c453af3a9f1b27cfb3b5b9d50d6a3fc0de0ab2d3321a932cf6542b036f2e aD.eq_1 ?_
 repeat'(first
  |(with_reducible first|exact dm|refine b8 ?_ ?_|refine dv ?_|refine au (fun _(h:mr r_0.aB.b_ r_0.aB.at_ r_0.aB.aU w_1=some _)=>(iW EW h:)) (fun r1=>?_))
  |refine Xe2 ?_|exact Xf6)
def b9(r_0:af)(Ia:Int)(YI:Int):Option (Int×af):=
 if r_0.e_ !=0 then
  some (0,r_0)
 else
  aQ (ja r_0.aB.b_ r_0.aB.at_ r_0.aB.aU) fun r1=>
  jn (
   if(r1.2.2==0)&&((decide (r1.1<Ia))||(decide (r1.1>YI)))then
    some 18
   else
    some r1.2.2) fun(e4:Int)=>
  some (r1.1,(af.mk (cw.mk r_0.aB.b_ r1.2.1 r_0.aB.aU) e4))
def lI{r_0 Ia YI}{B0:Nat}{s:ae}{Q:List AV->ae->Prop}(hB0:s B0=some (.cells (Cv r_0))):ok (b9 r_0 Ia YI) (fun r=>Q [.int .i64 r.1] (s.set B0 (.cells (Cv r.2))))->FN prog 100 [.ref B0 0,.int .i64 Ia,.int .i64 YI] s Q:=by
 rw[<-bq hB0]
 refine FR 57 [⟨6,true,none⟩] 0x1e5f58e73b352379f4525e925244edbb1d8dfc28b48c89b93dcd4f4ab971101edcee69ee3a70ab248192cd2eeb15169eca7be21786252b2da6e48490880ffcb4f4816339129d600cd9fc7638c1039b985d395b0948f92b70b8956c49cd048caa6219e9377cf56972e0ad12798ed3159d04d1b07cead256fead1910a7d020aae0ee1286a65dc5a19b6cc32a4fc65e897890924392cd64a80c830cca55ebc64023ce6ceb747c41103f5e8976400c0ba b9.eq_1 ?_
 repeat'(first
  |(with_reducible first|exact dm|refine b8 ?_ ?_|refine dv ?_|refine c9 (fun _(h:ja r_0.aB.b_ r_0.aB.at_ r_0.aB.aU=some _)=>(iW BF h:)) (fun _=>rfl) (fun r1=>?_))
  |((with_reducible refine dZ (fun(e4:Int)=>⟨[(0,.ref B0 0),(7,.int .i64 r1.1),(8,.int .i64 r1.2.1),(9,.int .i64 e4)],[],(s.set B0 (.cells (Cv r_0)))⟩) (fun J=>?_) ?_);rotate_left;rintro e4)
  |refine Xe2 ?_|exact Xf6)
def cy(r_0:af):Option (aa×af):=
 if r_0.e_ !=0 then
  some ((aa.mk 0 0 (aO.mk []) ([]:List aa)),r_0)
 else
  aQ (lg r_0.aB.b_ r_0.aB.at_ r_0.aB.aU) fun r1=>
  some (r1.1,(af.mk (cw.mk r_0.aB.b_ r1.2.1 r_0.aB.aU) r1.2.2))
def sZ{r_0}{B0:Nat}{s:ae}{Q:List AV->ae->Prop}(hB0:s B0=some (.cells (Cv r_0))):ok (cy r_0) (fun r=>Q [oV r.1] (s.set B0 (.cells (Cv r.2))))->FN prog 103 [.ref B0 0] s Q:=by
 rw[<-bq hB0]
 refine FR 42 [⟨2,false,some (4,true)⟩] 0x111deafb502c1a2155afe8c0e6dbad375ebf31bad6b47bc799214077fb40a1c1e048ccdee1862b1a7eacfa15b519699ca7856f303948063f6ccbbe05c4021231b72fae8a84798aaef6828e9663eee0c40145946f27e632a1c9a48c93013b96447675fde24e8c014748b4fe2a448e27dd9446ab78ab19e23ce6ceb747a391081421f991eb37e00908f3a cy.eq_1 ?_
 repeat'(first
  |with_reducible exact dm
  |((with_reducible refine Mu ?_ ?_);exact rfl)
  |(with_reducible first|refine b8 ?_ ?_|refine dv ?_|refine c9 (fun _(h:lg r_0.aB.b_ r_0.aB.at_ r_0.aB.aU=some _)=>DG h) (fun _=>rfl) (fun r1=>?_))
  |refine Xe2 ?_|exact Xf6)
def bz(r_0:af):Option (Bool×af):=
 if r_0.e_ !=0 then
  some (false,r_0)
 else
  aQ (eI r_0.aB.b_ r_0.aB.at_ r_0.aB.aU) fun r1=>
  jn (
   if r1.2 !=0 then
    some (af.mk (cw.mk r_0.aB.b_ r1.1.To r_0.aB.aU) r1.2)
   else
    if r1.1.Kind==0 then
     aQ (ay (af.mk (cw.mk r_0.aB.b_ r1.1.To r_0.aB.aU) r1.2) 10) fun r4=>
     some r4
    else
     if(r1.1.Kind !=6)||((!(r1.1.S.b==(aO.mk [101,110,100,111,98,106]).b))&&(!(r1.1.S.b==(aO.mk [115,116,114,101,97,109]).b)))then
      aQ (ay (af.mk (cw.mk r_0.aB.b_ r1.1.To r_0.aB.aU) r1.2) 18) fun r5=>
      some r5
     else
      some (af.mk (cw.mk r_0.aB.b_ r1.1.To r_0.aB.aU) r1.2)) fun(o3:af)=>
  some ((o3.e_==0)&&(r1.1.S.b==(aO.mk [115,116,114,101,97,109]).b),o3)
def qL{r_0}{B0:Nat}{s:ae}{Q:List AV->ae->Prop}(hB0:s B0=some (.cells (Cv r_0))):ok (bz r_0) (fun r=>Q [.bool r.1] (s.set B0 (.cells (Cv r.2))))->FN prog 104 [.ref B0 0] s Q:=by
 rw[<-bq hB0]
 refine FR 74 [⟨2,true,none⟩] 0x1f7f7f3fabca7231f275b9510103907cb2250cfa41e40dce40fea326a9db3fa3f76523a86173785c1bf64a297fd304d2d7fdda8508eba7517b5110f42e066658f3ca5bc6ac99d38688e08665bde5d512726adb4d808094650fb1bec7193609e67b3d3d99d470fc0dd237faec32fa627ffd8cde17561e53f744782c850fa0ea9535655ba16d8c76d63fe45ce8b742516e83ae181803f5545e79280d29fd1bb7659cb0506b73d161090061780cfc67be7afde5d729313afd90b86be6d0a913c8f296e05e4ffe032961f871acbbebfc1a14d36bab6ae45a19c061b9851910a7d020aae0ee1286a65dc5a19b6cc328233f5246e69366c272f216f1fc19cfba8e8fc23ce6ceb747a38cfa1b2c824473a bz.eq_1 ?_
 repeat'(first
  |with_reducible exact dm
  |((with_reducible refine Mu ?_ ?_);exact rfl)
  |(with_reducible first|refine b8 ?_ ?_|refine dv ?_|refine c9 (fun _(h:eI r_0.aB.b_ r_0.aB.at_ r_0.aB.aU=some _)=>(iW k9 h:)) (fun _=>rfl) (fun r1=>?_)|refine fun hh=>du (B0:=B0) C_ (aL (show ok (ay (af.mk (cw.mk r_0.aB.b_ r1.1.To r_0.aB.aU) r1.2) 10) _ from hh) fun r4=>?_)|refine fun hh=>du (B0:=B0) C_ (aL (show ok (ay (af.mk (cw.mk r_0.aB.b_ r1.1.To r_0.aB.aU) r1.2) 18) _ from hh) fun r5=>?_))
  |((with_reducible refine dZ (fun(o3:af)=>⟨[(0,.ref B0 0),(3,.loc [.int .i64 r1.1.Kind,.int .i64 r1.1.aS,.int .i64 r1.1.To,.int .i64 r1.1.V.Kind,.int .i64 r1.1.V.N,.str r1.1.V.S.b,sF 4 r1.1.V.L,.str r1.1.S.b])],[],(s.set B0 (.cells (Cv o3)))⟩) (fun J=>?_) ?_);rotate_left;rintro o3)
  |refine Xe2 ?_|exact Xf6)
def dI(p_0:cw):Option (Int):=
 if p_0.aU then
  some 10
 else
  some 6
def vz{p_0}{B0:Nat}{preB0 postB0:List AV}{oB0:Nat}{s:ae}{Q:List AV->ae->Prop}(hB0:s B0=some (.cells (Wi preB0 [sF 1 p_0.b_,.int .i64 p_0.at_,.bool p_0.aU] postB0)))(eB0:preB0.length=oB0):ok (dI p_0) (fun r=>Q [.int .i64 r] s)->FN prog 169 [.ref B0 oB0] s Q:=by
 subst eB0
 rw[<-bq hB0]
 exact FC 7 [⟨2,true,none⟩] 0x6de8cfafaf9a6b582a0ce164a71a2564f29b59bf84ba1ffcc00473a dI.eq_1
def nt{p_0}{B0:Nat}{preB0 postB0:List AV}{oB0:Nat}{s:ae}{r:Int}(hB0:s B0=some (.cells (Wi preB0 [sF 1 p_0.b_,.int .i64 p_0.at_,.bool p_0.aU] postB0)))(eB0:preB0.length=oB0)(h:dI p_0=some r):FE prog 169 [.ref B0 oB0] s [.int .i64 r] s:=vz hB0 eB0 ⟨r,h,rfl,rfl⟩
def bG(r_0:af):Option (af):=
 jn (
  a8 ((decide (r_0.aB.at_<(r_0.aB.b_.length:Int)))=true->0<=r_0.aB.at_/\r_0.aB.at_<r_0.aB.b_.length)<|
  if(decide (r_0.aB.at_<(r_0.aB.b_.length:Int)))&&(((ix r_0.aB.b_ r_0.aB.at_).toNat:Int)==13)then
   some (af.mk (cw.mk r_0.aB.b_ (aC (r_0.aB.at_+1)) r_0.aB.aU) r_0.e_)
  else
   some r_0) fun(o1:af)=>
 if o1.e_ !=0 then
  some o1
 else
  if decide (o1.aB.at_>=(o1.aB.b_.length:Int))then
   aQ (dI o1.aB) fun r2=>
   aQ (ay o1 r2) fun r3=>
   some r3
  else
   a8 (0<=o1.aB.at_/\o1.aB.at_<o1.aB.b_.length)<|
   if((ix o1.aB.b_ o1.aB.at_).toNat:Int)!=10 then
    aQ (ay o1 18) fun r4=>
    some r4
   else
    some (af.mk (cw.mk o1.aB.b_ (aC (o1.aB.at_+1)) o1.aB.aU) o1.e_)
def tG{r_0}{B0:Nat}{s:ae}{Q:List AV->ae->Prop}(hB0:s B0=some (.cells (Cv r_0))):ok (bG r_0) (fun r=>Q [] (s.set B0 (.cells (Cv r))))->FN prog 136 [.ref B0 0] s Q:=by
 rw[<-bq hB0]
 refine FR 88 [] 0xb23511737c999977adaa6df040903d97b9cf84576aa3586ea0c5944e090be56351ece0ebebbc19c22be8f0a90d30d852b0ba11e1da7e28b64d87a2a8d9d1c6580ff0bc38159a2fbfc5e9a09f93d3e7a8cdebf21809dc2dadfd5f50278a434fcdc6323d0d97fe0fdc1e728673ed14946961dad9a5676f9ab04402c224c7834c8e5694f92ae1adb9eeaee3c7d9285d401d9b2a4ea4b99632c33b1f591c3628d63fa5883b2f6c97c9f6ac6ea51afb2cbc7e34b2a0e0d948aa02fe3485ec5694a8629c4c3abca02c962ae59b23a16168f27942bfb3ca6dad221af2768c39e775f4defe672af687dbbe4d834d01b3bddf9e0fccb605f95f5c1906e6aee5a10 bG.eq_1 ?_
 repeat'(first
  |(with_reducible first|exact dm|refine b8 ?_ ?_|refine dv ?_|refine au (fun _(h:dI o1.aB=some _)=>nt (B0:=B0) (preB0:=[]) (postB0:=[.int .i64 o1.e_]) C_ Gq h) (fun r2=>?_)|refine fun hh=>du (B0:=B0) C_ (aL (show ok (ay o1 r2) _ from hh) fun r3=>?_)|refine fun hh=>du (B0:=B0) C_ (aL (show ok (ay o1 18) _ from hh) fun r4=>?_))
  |((with_reducible refine dZ (fun(o1:af)=>⟨[(0,.ref B0 0)],[],(s.set B0 (.cells (Cv o1)))⟩) (fun J=>?_) ?_);rotate_left;rintro o1)
  |refine Xe2 ?_|exact Xf6)
def bd(r_0:af)(n_1:Int):Option ((List UInt8)×af):=
 if r_0.e_ !=0 then
  some (([]:List UInt8),r_0)
 else
  if decide (n_1>aC ((r_0.aB.b_.length:Int) -r_0.aB.at_))then
   aQ (dI r_0.aB) fun r1=>
   aQ (ay r_0 r1) fun r2=>
   some (([]:List UInt8),r2)
  else
   a8 (0<=aC ((aC (r_0.aB.at_+n_1)) -n_1)/\aC ((aC (r_0.aB.at_+n_1)) -n_1)<=aC (r_0.aB.at_+n_1)/\aC (r_0.aB.at_+n_1)<=r_0.aB.b_.length)<|
   some (part r_0.aB.b_ (aC ((aC (r_0.aB.at_+n_1)) -n_1)) (aC (r_0.aB.at_+n_1)),(af.mk (cw.mk r_0.aB.b_ (aC (r_0.aB.at_+n_1)) r_0.aB.aU) r_0.e_))
def sW{r_0 n_1}{B0:Nat}{s:ae}{Q:List AV->ae->Prop}(hB0:s B0=some (.cells (Cv r_0))):ok (bd r_0 n_1) (fun r=>Q [sF 1 r.1] (s.set B0 (.cells (Cv r.2))))->FN prog 137 [.ref B0 0,.int .i64 n_1] s Q:=by
 rw[<-bq hB0]
 refine FR 60 [⟨4,false,none⟩] 0x374f7278c4138959a4bc0a37e7b4a19dac8ed11e4059b2be06eb3139540648ba901a0903cfec0e173263ffc7a2f1fbcd18f776726e002c321be16b2beee6ce185e10539d2c6eed2b8761a19c961beebfadf8c2497736720b8cd569b02fe7961585639cce07595fba5b41da8c931cbd2d1d7a6f19ef9e531feb6cbaf2070320f358520280547e65e73016fa9586d31a287188b728483a88e30aa4213815cb2730d0f2e3fa bd.eq_1 ?_
 repeat'(first
  |(with_reducible first|exact dm|refine b8 ?_ ?_|refine dv ?_|refine au (fun _(h:dI r_0.aB=some _)=>nt (B0:=B0) (preB0:=[]) (postB0:=[.int .i64 r_0.e_]) C_ Gq h) (fun r1=>?_)|refine fun hh=>du (B0:=B0) C_ (aL (show ok (ay r_0 r1) _ from hh) fun r2=>?_))
  |refine Xe2 ?_|exact Xf6)
def lH(v_0:aa):Option (Bool×Bool):=
 aQ (cM v_0 (aO.mk [70,105,108,116,101,114])) fun r1=>
 jn (
  if(r1.1.Kind==6)&&((r1.1.L.length:Int)==1)then
   a8 (0<=(0:Int)/\(0:Int)<r1.1.L.length)<|
   some (ix r1.1.L 0)
  else
   some r1.1) fun(f2:aa)=>
 some (r1.2,(!r1.2)||((f2.Kind==5)&&(f2.S.b==(aO.mk [70,108,97,116,101,68,101,99,111,100,101]).b)))
def Bj{v_0}:FF 134 [oV v_0] (lH v_0) fun r=>[.bool r.1,.bool r.2]:=by
 intro s Q
 refine FR 37 [⟨2,true,none⟩,⟨3,true,none⟩] 0x4f813041a3f6d619598e4aa5799a241db6cd23ec557bde6277c9d1e04c6d41e9bf5a41e20e6636f24a9ade2700de94e67ca257273e9bd53b4089d675a1e5a5ab25d04e58d300acf21918786e20a60dd0d6ea9306733a35491f893c9d7e141de1933249281169bc84865daf54f4b8a423e2a166da840893b1520d0b8440aba6aa0cab050c43fd0b07efe2e5acf3c982c6ea8ec36830399ac lH.eq_1 ?_
 repeat'(first
  |with_reducible refine au (fun _(h:cM v_0 (aO.mk [70,105,108,116,101,114])=some _)=>fm h) (fun r1=>?_)
  |((with_reducible refine dZ (fun(f2:aa)=>⟨[(4,.loc (MB f2)),(5,.bool r1.2)],[],s⟩) (fun J=>?_) ?_);rotate_left;rintro f2)
  |refine Xe2 ?_|exact Xf6)
def bw(r_0:af)(v_1:aa):Option (aJ×af):=
 aQ (cM v_1 (aO.mk [76,101,110,103,116,104])) fun r1=>
 aQ (lH v_1) fun r2=>
 jn (
  aQ (jA (!((((v_1.Kind !=7)||(r1.1.Kind !=2))||(decide (r1.1.N<0)))||(decide (r1.1.N>16777216)))) false (mb v_1 (aO.mk [68,101,99,111,100,101,80,97,114,109,115]))) fun r8=>
  if(((((v_1.Kind !=7)||(r1.1.Kind !=2))||(decide (r1.1.N<0)))||(decide (r1.1.N>16777216)))||r8)||(!r2.2)then
   aQ (ay r_0 18) fun r9=>
   some r9
  else
   some r_0) fun(o7:af)=>
 aQ (bG o7) fun r10=>
 aQ (bd r10 r1.1.N) fun r11=>
 aQ (aD r11.2 (aO.mk [101,110,100,115,116,114,101,97,109])) fun r12=>
 aQ (aD r12 (aO.mk [101,110,100,111,98,106])) fun r13=>
 jn (
  if r2.1&&(r13.e_==0)then
   aQ (gN r11.1 16777216) fun r18=>
   jn (
    if r18.2.2 !=0 then
     aQ (ay r13 18) fun r23=>
     some r23
    else
     some r13) fun(o22:af)=>
   some (r18.1,o22)
  else
   some (r11.1,r13)) fun((CG,o17):(List UInt8)×af)=>
 aQ (fg v_1 (aO.mk [76,101,110,103,116,104])) fun r24=>
 aQ (fg r24 (aO.mk [70,105,108,116,101,114])) fun r25=>
 aQ (nK r25 (aO.mk CG)) fun r26=>
 some (r26,o17)
def rZ{r_0 v_1}{B0:Nat}{s:ae}{Q:List AV->ae->Prop}(hB0:s B0=some (.cells (Cv r_0))):ok (bw r_0 v_1) (fun r=>Q [.agg (cX5 r.1)] (s.set B0 (.cells (Cv r.2))))->FN prog 105 [.ref B0 0,oV v_1] s Q:=by
 rw[<-bq hB0]
 refine FR 86 [⟨4,false,some (6,true)⟩] 0x3ae4ba0bcc76efa38fc28b11f1b121e0cf009e0dadf9ea83f7742cb47bca4d71ce14ee70b6c54737e6da76a1688a85ee1d50a3ffd9bba6c7b7859c752f08024aead127356bd1f37950f35f207673217a282e7b759b9f51bfb75fee3304b7afa427a188ef804b9a8afbe5e86dc71fb3b82a3f9dd14b7a5b1c474f1ad15e055af7465098926fc474c97d3716e2ac65a211fdb4244816e9db33cd7aa274994ed8557d2572ace89f9a721c495a0f7fd9945bb1db2d6f8438dccf0e41089859d4f0db02ab2fe489c9ab59b77d80911c689a3813a2de20ecde87140145b71894115106c5c9a456bc1415aaef984770d7b8d25095675049543b1629be8ce2679d3e3be14703f988aea42dff3be45e3662221db312be25a1e5798402d2c697c1534e197e42dec487e1b799d035f5256781c019b65aef9b96ff7ad63985e235b27c95ef6b90b88021865a9965fb3c86f950bef4526ae0a80b6f971811b6cb3e58e4da75554333afe25bff273683dcd0f5908236fe47338b7ae0d3d01344bc399feb bw.eq_1 ?_
 repeat'(first
  |(with_reducible first|exact dm|refine b8 ?_ ?_|refine dv ?_|refine au (fun _(h:cM v_1 (aO.mk [76,101,110,103,116,104])=some _)=>fm h) (fun r1=>?_)|refine au (fun _(h:lH v_1=some _)=>(iW Bj h:)) (fun r2=>?_)|refine jo rfl (fun _(h:mb v_1 (aO.mk [68,101,99,111,100,101,80,97,114,109,115])=some _)=>(iW H9 h:)) (fun _=>rfl) (fun r8=>?_)|refine fun hh=>du (B0:=B0) C_ (aL (show ok (ay r_0 18) _ from hh) fun r9=>?_)|refine fun hh=>tG (B0:=B0) C_ (aL (show ok (bG o7) _ from hh) fun r10=>?_)|refine fun hh=>sW (B0:=B0) C_ (aL (show ok (bd r10 r1.1.N) _ from hh) fun r11=>?_)|refine fun hh=>jJ (B0:=B0) C_ (aL (show ok (aD r11.2 (aO.mk [101,110,100,115,116,114,101,97,109])) _ from hh) fun r12=>?_)|refine fun hh=>jJ (B0:=B0) C_ (aL (show ok (aD r12 (aO.mk [101,110,100,111,98,106])) _ from hh) fun r13=>?_)|refine au (fun _(h:gN r11.1 16777216=some _)=>Eo h) (fun r18=>?_)|refine fun hh=>du (B0:=B0) C_ (aL (show ok (ay r13 18) _ from hh) fun r23=>?_)|refine c9 (fun _(h:fg v_1 (aO.mk [76,101,110,103,116,104])=some _)=>qu h) (fun _=>rfl) (fun r24=>?_)|refine c9 (fun _(h:fg r24 (aO.mk [70,105,108,116,101,114])=some _)=>qu h) (fun _=>rfl) (fun r25=>?_)|refine c9 (fun _(h:nK r25 (aO.mk CG)=some _)=>(iW Bi h:)) (fun _=>rfl) (fun r26=>?_))
  |((with_reducible refine dZ (live:=[(0,false),(3,false),(4,false),(5,false),(7,false)]) (fun(o7:af)=>⟨[(0,.ref B0 0),(3,.loc (MB v_1)),(4,.loc [.int .i64 0,.int .i64 0,.str (aO.mk []).b,.sl true 4 0 [],.bool false,.str (aO.mk []).b]),(5,.loc (MB r1.1)),(7,.bool r2.1)],[],(s.set B0 (.cells (Cv o7)))⟩) (fun J=>?_) ?_);rotate_left;rintro o7)
  |((with_reducible refine dZ (live:=[(3,false),(4,false),(10,true)]) (fun(o22:af)=>⟨[(3,.loc (MB v_1)),(4,.loc [.int .i64 0,.int .i64 0,.str (aO.mk []).b,.sl true 4 0 [],.bool false,.str (aO.mk []).b]),(10,sF 1 r18.1)],[],(s.set B0 (.cells (Cv o22)))⟩) (fun J=>?_) ?_);rotate_left;rintro o22)
  |((with_reducible refine dZ (live:=[(3,false),(4,false),(9,true)]) (fun((CG,o17):(List UInt8)×af)=>⟨[(3,.loc (MB v_1)),(4,.loc [.int .i64 0,.int .i64 0,.str (aO.mk []).b,.sl true 4 0 [],.bool false,.str (aO.mk []).b]),(9,sF 1 CG)],[],(s.set B0 (.cells (Cv o17)))⟩) (fun J=>?_) ?_);rotate_left;rintro⟨CG,o17⟩)
  |refine Xe2 ?_|exact Xf6)
def eX(b_0:(List UInt8))(fL:Int)(cQ:Bool):Option (Int×aJ×Int×Int):=
 aQ (b9 (af.mk (cw.mk b_0 fL cQ) 0) 1 4096) fun r1=>
 aQ (b9 r1.2 0 0) fun r2=>
 aQ (aD r2.2 (aO.mk [111,98,106])) fun r3=>
 aQ (cy r3) fun r4=>
 aQ (nJ r4.1) fun r5=>
 jn (
  aQ (bz r4.2) fun r10=>
  if r10.1 then
   aQ (bw r10.2 r5.V) fun r11=>
   some (r11.1,r11.2)
  else
   some (r5,r10.2)) fun((o8,o9):aJ×af)=>
 if o9.e_ !=0 then
  some (0,(aJ.mk (aa.mk 0 0 (aO.mk []) ([]:List aa)) false (aO.mk [])),0,o9.e_)
 else
  some (r1.1,o8,o9.aB.at_,0)
def CO{b_0 fL cQ}:FF 72 [sF 1 b_0,.int .i64 fL,.bool cQ] (eX b_0 fL cQ) fun r=>[.int .i64 r.1,.agg (cX5 r.2.1),.int .i64 r.2.2.1,.int .i64 r.2.2.2]:=by
 intro s Q
 intro h
 refine FN.forget ?_
 refine FP 51 [⟨6,true,none⟩,⟨7,false,some (6,true)⟩,⟨8,true,none⟩,⟨9,true,none⟩] (dec 0x13696e8817f01dd43421df875806db901674a786fef9e9c60351b066dffd68560903b6d7397baea9c6cff4ac018caf789358cc9f3669399b86bce3869975c9b8fdb43c5ea6da6216252ff44b1243a2012967719c8147f959c902330e8f8ad7778c488d8efbf0e906d8d4f993e36299c7025380f147cffd8e5547e65fd3b0a52d4d05b6242e370d5603c45dc1eba2f3b466e23b9b05bbec215d16f45278a823d128b9f982f3763fa5ca3d3176bace7b42ad476e8cea42a299f34d0ec46dceda27924f49c0f08773ad0f73703aeb21f239db29431a1bfb31c75d917840222c02e7c5bd7069e809a02c00c1ad) B_ rfl ?_
 revert h
 rw[eX]
 refine Xf7 ?_
 repeat'(first
  |(with_reducible first|exact dm|refine b8 ?_ ?_|refine dv ?_|refine fun hh=>lI (B0:=N1) C_ (aL (show ok (b9 (af.mk (cw.mk b_0 fL cQ) 0) 1 4096) _ from hh) fun r1=>?_)|refine fun hh=>lI (B0:=N1) C_ (aL (show ok (b9 r1.2 0 0) _ from hh) fun r2=>?_)|refine fun hh=>jJ (B0:=N1) C_ (aL (show ok (aD r2.2 (aO.mk [111,98,106])) _ from hh) fun r3=>?_)|refine fun hh=>sZ (B0:=N1) C_ (aL (show ok (cy r3) _ from hh) fun r4=>?_)|refine au (fun _(h:nJ r4.1=some _)=>(iW Bh h:)) (fun r5=>?_)|refine fun hh=>qL (B0:=N1) C_ (aL (show ok (bz r4.2) _ from hh) fun r10=>?_)|refine fun hh=>rZ (B0:=N1) C_ (aL (show ok (bw r10.2 r5.V) _ from hh) fun r11=>?_))
  |((with_reducible refine dZ (fun((o8,o9):aJ×af)=>⟨[(7,.loc [.int .i64 0,.int .i64 0,.str (aO.mk []).b,.sl true 4 0 [],.bool false,.str (aO.mk []).b]),(10,.ref N1 0),(11,.int .i64 r1.1),(12,.loc (cX5 o8))],[],(s.set N1 (.cells (Cv o9)))⟩) (fun J=>?_) ?_);rotate_left;rintro⟨o8,o9⟩)
  |((fail_if_success (have _x:=sN1));with_reducible intro hh N1 hN1;(try simp only[fB]at hN1);have sN1:=hN1;revert hh)
  |with_reducible exact fun hh=>⟨_,wG.set (wG.refl _) Xa6,hh⟩
  |refine Xe2 ?_|exact Xf6)
def CN{b_0 fL cQ}{s:ae}{r:Int×aJ×Int×Int}(h:eX b_0 fL cQ=some r):FE prog 72 [sF 1 b_0,.int .i64 fL,.bool cQ] s [.int .i64 r.1,.agg (cX5 r.2.1),.int .i64 r.2.2.1,.int .i64 r.2.2.2] s:=CO ⟨r,h,rfl,rfl⟩
end Go.AB
end
section
set_option maxRecDepth 16000
namespace Go.AB
open Go
open Go.Proofs.Tryz (prog)
structure aj where
 aS:Int
 To:Int
 deriving DecidableEq
instance:aP aj:=⟨2,fun x=>[.int .i64 x.aS,.int .i64 x.To],(aj.mk 0 0),By,fun _=>rfl,fun _=>rfl⟩
@[go_sem]theorem oA(x:aj):aP.cells x=[.int .i64 x.aS,.int .i64 x.To]:=rfl
@[go_sem]theorem XW(l:List aj)(i:Int):pad [.int .i64 0,.int .i64 0] (views (AB.sub (flat l) (i.toNat*2) 2))=[.int .i64 ((ix l i).aS),.int .i64 ((ix l i).To)]:=by rw[<-oA];exact qJ _ 2 l i (by rw[oA];rfl) rfl
def jd(x_0:aj):Option (Bool):=some ((decide (x_0.aS<0))||(decide (x_0.To<=x_0.aS)))
def Fb{x_0}:FF 97 [.agg [.int .i64 x_0.aS,.int .i64 x_0.To]] (jd x_0) fun r=>[.bool r]:=by
 intro s Q
 exact FC 13 [⟨2,true,none⟩] 0x2269e60faaff15fd257fb4be20b5a1921aec806cf3537bdbeacb2d28c58c9e368210995b jd.eq_1
def qn{x_0}{s:ae}{r:Bool}(h:jd x_0=some r):FE prog 97 [.agg [.int .i64 x_0.aS,.int .i64 x_0.To]] s [.bool r] s:=Fb ⟨r,h,rfl,rfl⟩
def bA(s_0:(List aj)):Option (Int):=
 yx (
  nE (
   iter (fun(t2:Int)=>
    if decide (t2<(s_0.length:Int))then
     a8 (0<=t2/\t2<s_0.length)<|
     aQ (jd (ix s_0 t2)) fun r4=>
     if r4 then
      some (.inr (.inr t2))
     else
      some (.inl (aC (t2+1)))
    else
     some (.inr (.inl ()))) 0) (fun(_:Unit)=>
   some (.inl ()))
  (fun(t3:Int)=>some (.inr t3))) (fun(_:Unit)=>
  some (-1))
 (fun(t1:Int)=>some t1)
theorem OY:(sS prog 97=true)=True:=eq_true B_
def fK{s_0}:FF 163 [.sl false 2 s_0.length (flat s_0),.fn 97 [] []] (bA s_0) fun r=>[.int .i64 r]:=by
 intro s Q
 refine FR 19 [⟨4,true,none⟩] 0x13ec7e6dde7cb2744e4e75812ff510dff68579477261a0815c8aa6b84768da438dd87bdfd7ba97a1b7c9e363583a7a026cd742537ed47394f62da005fe8417361861ef71dae3753ce2911f4757d13980083fa bA.eq_1 ?_
 repeat'(first
  |(with_reducible first|exact dm|refine b8 ?_ ?_|refine dv ?_|refine au (fun _(h:jd (ix s_0 t2)=some _)=>qn h) (fun r4=>?_))
  |((with_reducible refine cX (fun(t2:Int)=>⟨[(0,.sl false 2 s_0.length (flat s_0)),(1,.fn 97 [] []),(7,.int .i64 (s_0.length:Int)),(8,.int .i64 t2)],[],s⟩) ?_ ?_);(first|exact rfl|simp -implicitDefEqProofs only[go_sem,seval,OY]);rintro J t2)
  |((with_reducible refine eH (fun(_:Unit)=>⟨[],[],s⟩) (fun J=>?_) ?_);rotate_left;rintro _)
  |simp -implicitDefEqProofs only[go_sem,seval,OY])
def qC(ph:(List Int)):Option (Int):=
 yx (
  nE (
   iter (fun(t3:Int)=>
    if decide (t3<(ph.length:Int))then
     a8 (0<=t3/\t3<ph.length)<|
     if(ix ph t3)!=0 then
      some (.inr (.inr (ix ph t3)))
     else
      some (.inl (aC (t3+1)))
    else
     some (.inr (.inl ()))) 0) (fun(_:Unit)=>
   some (.inl ()))
  (fun(t5:Int)=>some (.inr t5))) (fun(_:Unit)=>
  some 0)
 (fun(t2:Int)=>some t2)
def HL{ph}:FF 147 [.sl false 1 ph.length (flat ph)] (qC ph) fun r=>[.int .i64 r]:=by
 intro s Q
 refine FR 18 [⟨2,true,none⟩] 0x3386be2e4554fbbd4da5b368412dc3e0b0063551da1cd55249d3f20d9dc2cd0ec20abaa8c34be922e8fb43a45e2e825fb3148c19bbf3da176640be7a037170c1e4aa0033e8656916415cb0b1c852148e7bcc00473a qC.eq_1 ?_
 repeat'(first
  |((with_reducible refine cX (fun(t3:Int)=>⟨[(3,.int .i64 0),(6,.sl false 1 ph.length (flat ph)),(7,.int .i64 (ph.length:Int)),(8,.int .i64 t3)],[],s⟩) ?_ ?_);(first|exact rfl|simp -implicitDefEqProofs only[go_sem,seval]);rintro J t3)
  |((with_reducible refine eH (fun(_:Unit)=>⟨[(3,.int .i64 0)],[],s⟩) (fun J=>?_) ?_);rotate_left;rintro _)
  |refine Xe2 ?_|exact Xf6)
def pV(a_0:aj)(b_1:aj):Option (Int):=
 aQ (dt a_0.aS b_1.aS) fun r1=>
 aQ (dt a_0.To b_1.To) fun r2=>
 aQ (qC [r1,r2]) fun r3=>
 some r3
def DZ{a_0 b_1}:FF 130 [.agg [.int .i64 a_0.aS,.int .i64 a_0.To],.agg [.int .i64 b_1.aS,.int .i64 b_1.To]] (pV a_0 b_1) fun r=>[.int .i64 r]:=by
 intro s Q
 refine FR 17 [⟨4,true,none⟩] 0x42defd69891e3fbca7a88d7eaea9285c758dc672588ea38deca005f4671ca6bd0b98f3be796fc4e83d7600ce7ce5910981dc pV.eq_1 ?_
 repeat'(first
  |(with_reducible first|refine c9 (fun _(h:dt a_0.aS b_1.aS=some _)=>lE h) (fun _=>rfl) (fun r1=>?_)|refine c9 (fun _(h:dt a_0.To b_1.To=some _)=>lE h) (fun _=>rfl) (fun r2=>?_)|refine c9 (fun _(h:qC [r1,r2]=some _)=>(by refine pB ?_ ((iW HL h:));simp -implicitDefEqProofs only[go_sem,seval])) (fun _=>rfl) (fun r3=>?_))
  |refine Xe2 ?_|exact Xf6)
def DY{a_0 b_1}{s:ae}{r:Int}(h:pV a_0 b_1=some r):FE prog 130 [.agg [.int .i64 a_0.aS,.int .i64 a_0.To],.agg [.int .i64 b_1.aS,.int .i64 b_1.To]] s [.int .i64 r] s:=DZ ⟨r,h,rfl,rfl⟩
def AN:IC:=dec 0x149998c2ffeb70b596dc1d66fb6a1e8ca11bb31ceec7cd23b460cba2ae8c022b5b4473a
def K1:eO prog 106 8 [⟨2,true,none⟩] AN=true:=B_
def zo(l:List aj)(s:ae)(rs:List AV)(s':ae):Prop:=(∃b cap sp,rs=[.arr b 0 l.length cap]/\s b=none/\0<cap/\l.length<=cap/\(flat l++sp).length=cap*2/\views (flat l++sp)=flat l++sp/\s'=s.set b (.cells (flat l++sp)))\/(l=[]/\s'=s/\∃b,rs=[.arr b 0 0 0])
def xU{o:Bool}{l:List aj}{s:ae}(hr:l.length*16<=room):FN prog 106 [.sl o 2 l.length (flat l)] s (zo l s):=by
 refine FN.j4 (FO K1 rfl rfl ?_)
 generalize hQ:(fun rs s'=>∃s2,Sub s2 s'/\zo l s rs s2)=Q
 have hq:∀rs s' s2,Sub s2 s'->zo l s rs s2->Q rs s':=fun rs s' s2 h1 h2=>Xa8
 rw[AN]
 refine Xf7 ?_
 refine Xe2 ?_
 intro v hv
 refine⟨fun h=>hq _ _ s (Sub.refl s) (.inr ⟨List.eq_nil_of_length_eq_zero (hv KT),rfl,0,rfl⟩),fun _ b1 hb1=>?_⟩
 rw[gl,aH]
 by_cases hl:l=[]
 ·subst hl
  refine mE rfl rfl (Nat.le_refl 0) ?_
  refine Xe2 ?_
  exact hq _ _ s ((Sub.refl s).set hb1) (.inr ⟨rfl,rfl,_,rfl⟩)
 ·have hn:0<l.length:=List.length_pos_iff.2 hl
  refine er rfl rfl AT r_ fun b2 cap hb2 fI=>?_
  rw[Nat.zero_add]at fI
  have hz:(List.replicate (cap -(0+l.length)) [.int .i64 0,.int .i64 0]).flatten=flat (List.replicate (cap -l.length) (aj.mk 0 0:aj)):=Xa9
  rw[hz]
  simp -implicitDefEqProofs only[go_sem,seval,Nat.zero_add,List.nil_append]
  have M5:s b2=none:=((Sub.refl s).set hb1).none hb2
  refine hq _ _ _ (Sub.E7 ((Sub.refl s).set hb1)) (.inl ⟨b2,cap,_,rfl,M5,AT,fI,?_,?_,rfl⟩)
  ·rw[List.length_append,ax,ax,List.length_replicate]
   show l.length*2+(cap -l.length)*2=cap*2
   omega
  ·rw[lV,aH,aH]
def Kc{o:Bool}{l:List aj}{s:ae}(hr:l.length*16<=room):FE prog 106 [.sl o 2 l.length (flat l)] s [.us 2 l.length (flat l)] s:=
 FN.U7 (ax l) ⟨rfl,rfl⟩ ((xU hr).mono fun rs s' h=>by
  rcases h with⟨b,cap,sp,h1,h2,h3,h4,h5,h6,h7⟩|⟨h1,h2,h3⟩
  ·exact .inl ⟨b,cap,sp,h1,s7,h3,h4,h5,h6,s_⟩
  ·subst h1;exact .inr ⟨rfl,rfl,t_,h3⟩)
def zH:IC:=dec 0xff7229943abbe2e9bddb45fc1084a41fd72d19caf2a8b7b745aaab044607ba2d03c821e77c629d5b0c3fd7614e257eae373e1436016bfd3ad9463cfb0b059fdcd054806cfe3920b2453690a51c22901c97e2f1336fec7fcd48687e925ca63b56e2e7e5603bf7127dd62d2fee7093ddae121d2a147fd1120c942b839b558c9e2e3f5e892581effce2fc7603aa3f48f6ad53543e3a5b06a99b2bce60af7305f19d43cfb9dafba30619727483fa
def Gs:eO prog 128 42 [⟨4,true,none⟩] zH=true:=B_
end Go.AB
end
