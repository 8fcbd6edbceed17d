/- A part. -/
import Derived.Test.YtgecakgfnjkkbaaGreatFt11
import Derived.Test.YtgecakgfnjkkbaaGreatFt20
set_option linter.unusedSimpArgs false
set_option linter.unusedVariables false
section
set_option maxRecDepth 16000
namespace Go.AB
open Go
open Go.Proofs.Tryz (prog)
attribute[-go_sem] Nat.add_zero mI cE cy cU bQ cw
def vg:IC:=dec 0x51000d1407f3
def vh:IC:=dec 0x3627b8058aa
def vi:IC:=dec 0x158ec205d94692d8d3
def nv:IC:=dec 0x2fcf6b6fa350eaefd30405c27acfb0e508abbcdad695b12cb8123dc41539308f6582208bf0d3106def54c4e5a84534da99807b34ffffe539d956c523f973896713814de3c511cb87b15a50e514483c6ae44fd717dfbed21a28fbdc0eec5ed43e57f240e1f9db401059696e2e99fcab70e3ac657e711131b0bd4016bf6634c9b1d4a4ea47413b40b
def vj:IC:=dec 0x10dee0eaf9c2c93e9d7eda438d40ef6721b4ca754d7ee
def gP:List jB:=[⟨2,false,none⟩,⟨3,true,none⟩]
abbrev p8(l:List ab):AV:=.sl false 4 l.length (flat l)
theorem HO{s:ae}{l:List ab}{Q:List AV->ae->Prop}(hq:∀Bs,s Bs=none->∀Bn,(s.set Bs (.cells [p8 l])) Bn=none->Q [.fn 276 [] [.ref Bs 0,.ref Bn 0]] ((s.set Bs (.cells [p8 l])).set Bn (.cells [.int .i64 2]))):FN prog 248 [p8 l,.int .i64 2] s Q:=by
 refine FS 9 [⟨4,true,none⟩] 0x1df974198ae1199225e1b80aed78198a9a2ba880658cc2443cdcf3089cca1dc ?_
 have h0:decide ((2:Int)<1)=false:=rfl
 simp -implicitDefEqProofs only[go_sem,seval]
 intro Bs h1 Bn h2
 simp -implicitDefEqProofs only[go_sem,seval,h0,bL]
 exact hq Bs h1 Bn h2
def cA:Code->Code
 |.seq a _=>a
 |c=>c
def cB:Code->Code
 |.seq _ b=>b
 |c=>c
def rfA:Code->Code
 |.rangeFunc _ _ a _=>a
 |c=>c
def rfB:Code->Code
 |.rangeFunc _ _ _ b=>b
 |c=>c
def cIn:Code->Code
 |.block _ c=>c
 |c=>c
def aam:Code->Array Oper
 |.region _ ops _=>ops
 |_=> #[]
def QY:IC->List aq
 |.block _ (.XH _ l _)=>l
 |_=>[]
noncomputable def BJ:Code:=(Go.Proofs.Tryz.f218.body).getD .skip
noncomputable def pC1:Code:=cA BJ
noncomputable def pC2:Code:=cA (cB BJ)
noncomputable def pC3:Code:=cA (cA (cB (cB BJ)))
noncomputable def pRf:Code:=cIn (cB (cA (cB (cB BJ))))
noncomputable def pC4:Code:=cB (cB (cB BJ))
noncomputable def Vb:Array Oper:=aam (cIn (rfB pRf))
theorem BK:Go.Proofs.Tryz.f218.body=some (.seq pC1 (.seq pC2 (.seq (.seq pC3 (.block 0 (.rangeFunc (.tmp 8) #[9] (rfA pRf) (rfB pRf)))) pC4))):=by kernel_rfl
theorem PG:rfB pRf=.block 1 (.region 4 Vb false):=by kernel_rfl
theorem Wq:rfA pRf=.region 3 #[{dst:=some 5,op:=.assign (.tmp 9),type:=30,pos:= "parse.go:116",after:= #[],guard:=none}] false:=by kernel_rfl
theorem BL:k8 prog 40 pC1 vg=true:=by kernel_rfl
theorem BM:k8 prog 40 pC2 vh=true:=by kernel_rfl
theorem BN:k8 prog 40 pC3 vi=true:=by kernel_rfl
theorem BO:k8 prog 40 pC4 nv=true:=by kernel_rfl
theorem Lp:cz prog 40 Vb Vb.toList (QY vj)=true:=by kernel_rfl
theorem Ji:Vb.toList.all xh=true:=by kernel_rfl
theorem EL:ko prog Go.Proofs.Tryz.f218.results.toList gP=true:=by kernel_rfl
theorem Jj:Go.Proofs.Tryz.f218.ntmps=40:=by kernel_rfl
def iV(l:List ab)(k:Nat):List ab:=(l.drop (2*k)).take 2
def dj(l:List ab)(k:Nat):List VL:=(List.range k).map (iV l)
theorem mD(l:List ab)(k:Nat):dj l (k+1)=dj l k++[iV l k]:=by unfold dj;rw[List.range_succ,List.map_append];rfl
theorem yY(l:List ab)(k:Nat):(dj l k).length=k:=by simp[dj]
theorem nj(l:List ab)(k:Nat)(h:2*k+2<=l.length):(iV l k).length=2:=by unfold iV;rw[List.length_take,List.length_drop];omega
theorem PW{w:World}{R:Nat->Nat}{l:List ab}{b off k:Nat}(hR:off+(flat l).length<=R b)(ha:At w R b off (flat l))(hk:2*k+2<=l.length):VR w R (p8 (iV l k)) (eZ b off k):=by
 obtain⟨u,h1,h2,h3⟩:=ha
 have hs:=kK l 4 (2*k) 2 rfl
 have hl:(flat (iV l k)).length=2*4:=by rw[aA,nj l k hk];rfl
 have hfl:(flat l).length=l.length*4:=aA l
 have hg:∀(j:Nat)(c:AV),(flat (iV l k))[j]? =some c->(flat l)[2*k*4+j]? =some c:=fun j c hj=>by
  unfold iV at hj
  rw[<-hs,Ar]at hj
  split at hj
  ·exact hj
  ·cases hj
 unfold p8 eZ
 rw[nj l k hk]
 refine .sl false 4 2 _ b _ 2 (fun j=>u (2*k*4+j)) (fun c hc=>?_) hl (by omega) (Nat.le_refl _) (fun j c hj=>?_) (fun j c hj=>h2 _ c (hg j c hj))
 ·obtain⟨j,hj⟩:=List.mem_iff_getElem?.1 hc
  exact h3 c (List.mem_of_getElem? (hg j c hj))
 ·rw[Nat.add_assoc];exact h1 _ c (hg j c hj)
def nbB(ls:List VL)(i:Int):Option (Int⊕Bool):=
 bif decide (i<ls.length)then bt (1<=i/\i<2^62/\0<(ix ls i).length/\0<(ix ls (i -1)).length)<|
  bif(ix (ix ls i) 0).S.b==(ix (ix ls (i -1)) 0).S.b then some (.inr true)else some (.inl (i+1))
 else some (.inr false)
theorem Sv{s:ae}{r:cN}{ls:List VL}{B:Nat}{o o':SO}(h:fB s r ls)(hB:s B=some o):(iw s r ls).set B o'=iw (s.set B o') r ls/\fB (s.set B o') r ls:=by
 cases r with
 |none=>exact⟨rfl,h⟩
 |some x=>
  obtain⟨rb,cap,sp⟩:=x
  obtain⟨h1,h2⟩:=h
  have hne:B≠rb:=fun e=>by subst e;rw[h1]at hB;cases hB
  refine⟨set_comm hne,⟨by rw[ai hne.symm];exact h1,h2⟩⟩
def Fe(s:ae)(B2:Nat)(l:List ab)(k:Nat)(s':ae):Prop:=∃s1 r,s1 B2=some (.cells [iG r k])/\Sub s s1/\fB s1 r (dj l k)/\s'=iw s1 r (dj l k)
theorem UH{n i j:Nat}{x y:AV}{G:Gh}{W:World}{s:ae}{t:Array Value}(hij:i≠j)(hi:i<n)(hj:j<n)(hg:cq G W)(hs:a8 G W s)(ht:t.size=n)(hx:view x=x/\dh x=true)(hy:view y=y/\dh y=true)
 (h1:∀v,t[i]? =some v->VR W G.R x v)(h2:∀v,t[j]? =some v->VR W G.R y v):Inv G n [] ⟨[(i,x),(j,y)],[],s⟩ {tmps:=t,defers:=[]} W:=by
 have lk:∀k,look [(i,x),(j,y)] k=if i=k then x else if j=k then y else .undef:=fun k=>by rw[bc,bc];rfl
 refine⟨hg,hs,ht,fun k v hk=>?_,fun k hk=>?_,fun k d hd=>?_,rfl⟩
 ·show du G W _ t k (look [(i,x),(j,y)] k) v
  rw[lk]
  by_cases e1:i=k
  ·subst e1;rw[if_pos rfl,<-hx.1];exact du.xe hx.2 (h1 v hk)
  ·rw[if_neg e1]
   by_cases e2:j=k
   ·subst e2;rw[if_pos rfl,<-hy.1];exact du.xe hy.2 (h2 v hk)
   ·rw[if_neg e2];exact⟨.undef _,trivial⟩
 ·show look [(i,x),(j,y)] k=.undef
  rw[lk,if_neg (by omega),if_neg (by omega)]
 ·have hd:bG (look [(i,x),(j,y)] k) d:=hd
  rw[lk]at hd
  split at hd
  ·exact(eS hx.2 d hd).elim
  ·split at hd
   ·exact(eS hy.2 d hd).elim
   ·exact hd.elim
end Go.AB
end
section
namespace Go.AB
open Go
theorem uc:∀x y:List UInt8,Op.bytesLess x y=false->Op.bytesLess y x=false->x=y
 |[],[],_,_=>rfl
 |[],_::_,h,_=>by cases h
 |_::_,[],_,h=>by cases h
 |a::x,b::y,h1,h2=>by
  rw[nh]at h1 h2
  simp only[Bool.or_eq_false_iff,decide_eq_false_iff_not,Bool.and_eq_false_iff,beq_eq_false_iff_ne,UInt8.lt_iff_toNat_lt]at h1 h2
  have hab:a=b:=UInt8.toNat_inj.1 (by omega)
  subst hab
  rw[uc x y (h1.2.resolve_left fun h=>h rfl) (h2.2.resolve_left fun h=>h rfl)]
theorem Zp{x y:VL}(h1:Bz y x=false)(h2:((ix y 0).S.b==(ix x 0).S.b)=false):Bz x y=true:=by
 cases h:Bz x y with
 |true=>rfl
 |false=>
  have:=uc _ _ h1 h
  rw[this,beq_self_eq_true]at h2
  cases h2
theorem Zo{x y z:VL}(h1:Bz x y=true)(h2:Bz z y=false):Bz x z=true:=by
 cases h:Bz x z with
 |true=>rfl
 |false=>rw[<-h1];exact(Gx.tr _ _ _ h2 h).symm▸rfl
def oG:List VL->Bool
 |x::y::t=>((ix y 0).S.b==(ix x 0).S.b)||oG (y::t)
 |_=>false
theorem ND(x y:VL)(t:List VL):oG (x::y::t)=(((ix y 0).S.b==(ix x 0).S.b)||oG (y::t)):=rfl
theorem strict:∀{Z:List VL},jj Bz Z->oG Z=false->Z.Pairwise fun x y=>Bz x y=true
 |[],_,_=>List.Pairwise.nil
 |[x],_,_=>List.pairwise_singleton _ _
 |x::y::t,h,ha=>by
  unfold oG at ha
  rw[Bool.or_eq_false_iff]at ha
  obtain⟨h1,h2⟩:=List.pairwise_cons.1 h
  have ih:=strict h2 ha.2
  have hxy:=Zp (h1 y (by simp)) ha.1
  refine List.pairwise_cons.2 ⟨fun z hz=>?_,ih⟩
  rcases List.mem_cons.1 hz with rfl|hz
  ·exact hxy
  ·exact Zo hxy ((List.pairwise_cons.1 h2).1 z hz)
theorem XZ{Z W:List VL}(p:Z.Perm W)(h1:jj Bz Z)(h2:jj Bz W)(ha:oG Z=false):Z=W:=by
 have hs:=strict h1 ha
 refine List.Perm.eq_of_pairwise (le:=fun x y=>Bz y x=false) (fun a b ha hb e1 e2=>?_) h1 h2 p
 have hb:=p.mem_iff.2 hb
 have key:∀{L:List VL},L.Pairwise (fun x y=>Bz x y=true)->a∈L->b∈L->a=b:=by
  intro L
  induction L with
  |nil=>intro _ h;cases h
  |cons c L ih=>
   intro hL ha hb
   obtain⟨k1,k2⟩:=List.pairwise_cons.1 hL
   rcases List.mem_cons.1 ha with ea|ha2<;>rcases List.mem_cons.1 hb with eb|hb2
   ·rw[ea,eb]
   ·rw[<-ea]at k1;rw[k1 b hb2]at e2;cases e2
   ·rw[<-eb]at k1;rw[k1 a ha2]at e1;cases e1
   ·exact ih k2 ha2 hb2
 exact key hs ha hb
theorem Zu(Z:List VL)(jo:∀c∈Z,0<c.length)(hl:Z.length<2^60):iter (nbB Z) 1=some (oG Z):=by
 obtain⟨o,h1,rfl⟩:=eP (body:=nbB Z) (s0:=1) (fun q=>∃i:Nat,q=(i:Int)+1/\oG (Z.drop i)=oG Z/\i<=Z.length) (fun q=>((Z.length:Int)+1 -q).toNat) (fun o=>o=oG Z)
  ⟨0,rfl,by rw[List.drop_zero],Nat.zero_le _⟩ (by omega) (by
    rintro q ⟨i,rfl,ha,hi⟩
    unfold nbB
    by_cases h:i+1<Z.length
    ·have e1:Z.drop i=Z[i]::Z[i+1]::Z.drop (i+2):=by rw[List.drop_eq_getElem_cons (by omega),List.drop_eq_getElem_cons (i:=i+1) h]
     have e2:Z.drop (i+1)=Z[i+1]::Z.drop (i+2):=List.drop_eq_getElem_cons h
     have i1:ix Z ((i:Int)+1)=Z[i+1]:=by have:=gv (l:=Z) h;rw[<-this];congr 1
     have i2:ix Z ((i:Int)+1 -1)=Z[i]:=by rw[show(i:Int)+1 -1=(i:Int) by omega];exact gv (by omega)
     rw[e1,ND]at ha
     rw[show decide ((i:Int)+1<Z.length)=true by simp;omega,cond_true,i1,i2,bK ⟨by omega,by omega,jo _ (List.getElem_mem _),jo _ (List.getElem_mem _)⟩]
     cases he:((ix Z[i+1] 0).S.b==(ix Z[i] 0).S.b)with
     |true=>exact⟨.inr true,rfl,by rw[<-ha,he];rfl⟩
     |false=>
      rw[he,Bool.false_or]at ha
      refine⟨.inl ((i:Int)+1+1),rfl,⟨i+1,by omega,by rw[e2];exact ha,by omega⟩,by omega⟩
    ·rw[show decide ((i:Int)+1<Z.length)=false by simp;omega,cond_false]
     refine⟨.inr false,rfl,?_⟩
     rw[<-ha]
     rcases hd:Z.drop i with _|⟨x,t⟩
     ·rfl
     ·have:=congrArg List.length hd
      rw[List.length_drop,List.length_cons]at this
      obtain rfl:t=[]:=List.eq_nil_of_length_eq_zero (by omega)
      rfl)
 exact h1
def Oj(x:VL):List VL->List VL
 |[]=>[x]
 |y::t=>if Bz x y then x::y::t else y::Oj x t
theorem ye(x:VL):∀l,(Oj x l).Perm (x::l)
 |[]=>List.Perm.refl _
 |y::t=>by
  unfold Oj
  split
  ·exact List.Perm.refl _
  ·exact((ye x t).cons y).trans (List.Perm.swap x y t)
theorem IE(x:VL):∀{l},jj Bz l->jj Bz (Oj x l)
 |[],_=>jj.one x
 |y::t,h=>by
  obtain⟨h1,h2⟩:=List.pairwise_cons.1 h
  unfold Oj
  split
  ·rename_i hxy
   refine List.pairwise_cons.2 ⟨fun z hz=>?_,h⟩
   have h3:=Gx.TG _ _ hxy
   rcases List.mem_cons.1 hz with rfl|hz
   ·exact h3
   ·exact Gx.tr _ _ _ h3 (h1 z hz)
  ·rename_i hxy
   refine List.pairwise_cons.2 ⟨fun z hz=>?_,IE x h2⟩
   rcases List.mem_cons.1 ((ye x t).mem_iff.1 hz)with rfl|hz
   ·simpa using hxy
   ·exact h1 z hz
def vO(l:List VL):List VL:=l.foldr Oj []
theorem yM:∀l,(vO l).Perm l
 |[]=>List.Perm.refl _
 |x::l=>(ye x _).trans ((yM l).cons x)
theorem Cf:∀l,jj Bz (vO l)
 |[]=>List.Pairwise.nil
 |x::l=>IE x (Cf l)
def lA(l:List ab):Option (List ab×Int):=
 bt ((l.length:Int)<2^30/\l.length % 2=0)<|
 bif oG (vO (dj l (l.length/2)))then some ([],16)else some ((vO (dj l (l.length/2))).flatten,0)
theorem OG{Z C:List VL}(p:Z.Perm C)(h:jj Bz Z):oG Z=oG (vO C)/\(oG Z=false->Z=vO C):=by
 have p2:Z.Perm (vO C):=p.trans (yM C).symm
 have k:oG Z=false->Z=vO C:=XZ p2 h (Cf C)
 refine⟨?_,k⟩
 cases h1:oG Z with
 |false=>rw[<-k h1,h1]
 |true=>
  cases h2:oG (vO C)with
  |true=>rfl
  |false=>
   have:=XZ p2.symm (Cf C) h h2
   rw[this,h1]at h2;cases h2
end Go.AB
end
section
set_option maxRecDepth 4000
namespace Go.AB
open Go
open Go.Proofs.Tryz (prog)
attribute[-go_sem] Nat.add_zero mI cE cy cU bQ cw
theorem RC{α:Type}{c:Prop}[Decidable c]{o:Option α}{r:α}(h:bt c o=some r):c/\o=some r:=by
 by_cases hc:c
 ·rw[bK hc]at h;exact⟨hc,h⟩
 ·unfold bt at h
  rw[if_neg hc]at h;cases h
theorem Jl{s s1:ae}{B2 rb cap:Nat}{sp:List AV}{ls:List VL}{Q:List AV->ae->Prop}(hB:s1 B2=some (.cells [.arr rb 0 ls.length cap]))(hrb:s1 rb=none)(hs:Sub s s1)(hl:(ls.length:Int)<2^40)(hz:∀c∈ls,0<c.length)(hfl:ls.flatten.length*56<=room)
 (q1:oG (vO ls)=true->∀s',Sub s s'->Q [.sl false 4 0 [],.int .i64 16] s')(q0:oG (vO ls)=false->∀s',Sub s s'->Q [.sl false 4 (vO ls).flatten.length (flat (vO ls).flatten),.int .i64 0] s'):
 fD prog nv (vJ gP Q) ⟨[(4,.ref B2 0)],[],s1.set rb (.cells (flat ls++sp))⟩:=by
 have bX:room=140737488355328:=rfl
 have hne:B2≠rb:=fun e=>by subst e;rw[hrb]at hB;cases hB
 have hB':∀cs,(s1.set rb (.cells cs)) B2=some (.cells [.arr rb 0 ls.length cap]):=fun cs=>by rw[ai hne];exact hB
 rw[nv,gP]
 conv in dec _=>reduce
 simp -implicitDefEqProofs only[go_sem,seval,hB']
 refine SE (by omega) hz fun two p1 s1'=>?_
 have hlen:=p1.length_eq
 have jo:∀c∈two,0<c.length:=fun c hc=>hz c (p1.mem_iff.1 hc)
 obtain⟨ka,kb⟩:=OG p1 s1'
 have aiR:two.flatten.length=ls.flatten.length:=p1.flatten.length_eq
 have hn:ok (iter (nbB two) 1) fun d=>(d=true->∀s',Sub s s'->Q [.sl false 4 0 [],.int .i64 16] s')/\(d=false->∀s',Sub s s'->Q [.sl false 4 two.flatten.length (flat two.flatten),.int .i64 0] s'):=⟨_,Zu two jo (by omega),fun e=>q1 (ka▸e),fun e=>by rw[kb e];exact q0 (ka▸e)⟩
 rw[<-hlen]
 rw[<-hlen]at hB' hl
 simp -implicitDefEqProofs only[go_sem,seval]
 refine ed (fun(i:Int)=>(⟨[(4,.ref B2 0),(6,.int .i64 i)],[],s1.set rb (.cells (flat two++sp))⟩:St)) rfl ?_ hn
 ·intro J i hb
  unfold nbB at hb
  cases hlt:decide (i<two.length)with
  |false=>
   rw[hlt,cond_false,bO]at hb
   simp -implicitDefEqProofs only[go_sem,seval,hB',hlt,bL]
   simp only[Af]at hb
   refine NX hrb jo (by omega) (by omega) fun s' r' hs' ve=>?_
   simp -implicitDefEqProofs only[go_sem,seval]
   refine Ga rfl ve rfl ?_
   simp -implicitDefEqProofs only[go_sem,seval]
   exact hb.2 trivial s' fun b o h=>hs' b o ((hs.set hrb) b o h)
  |true=>
   rw[hlt,cond_true,ir]at hb
   obtain⟨⟨h1,h2,h3,h4⟩,hb⟩:=hb
   have hi:i<two.length:=by simpa using hlt
   obtain⟨r1,r2⟩:=VC two sp (j:=i) (by omega) hi
   obtain⟨r3,r4⟩:=VC two sp (j:=i -1) (by omega) (by omega)
   have w1:aC (i -1)=i -1:=ar (by omega) (by omega)
   have w2:aC (i+1)=i+1:=ar (by omega) (by omega)
   generalize hcs:flat two++sp=cs at*
   have d1:=decide_eq_true r1
   have d3:=decide_eq_true r3
   simp -implicitDefEqProofs only[go_sem,Nat.reduceBEq,Nat.reduceAdd,Nat.reduceMul,Nat.reduceLeDiff,Nat.reduceEqDiff,Nat.reduceBNe,UInt8.reduceToNat,UInt32.reduceToNat,hB',hlt,w1,w2,r2,r4,d1,d3,bL]
   refine⟨⟨by omega,hi⟩,⟨Int.le_refl _,by omega⟩,⟨by omega,by omega⟩,⟨Int.le_refl _,by omega⟩,fun he=>?_,fun he=>?_⟩
   ·rw[he,cond_true,bO]at hb
    simp only[Af]at hb
    exact hb.1 trivial _ (hs.set hrb)
   ·rw[he,cond_false,bO]at hb
    exact hb
theorem Lo{s:ae}{B2:Nat}{l:List ab}{k:Nat}{s':ae}(hs0:s B2=none)(hk:k<2^36)(hch:(iV l k).length=2)(h:Fe s B2 l k s'):
 swp prog (QY vj) ⟨[(4,.ref B2 0),(5,p8 (iV l k))],[],s'⟩ fun E'=>Fe s B2 l (k+1) E'.s:=by
 have bX:room=140737488355328:=rfl
 obtain⟨s1,r,h1,h2,h3,rfl⟩:=h
 have hB:iw s1 r (dj l k) B2=some (.cells [iG r k]):=jf h3 h1
 have hkl:(dj l k).length=k:=yY l k
 generalize dZ:iw s1 r (dj l k)=st at hB
 rw[vj]
 conv in dec _=>reduce
 rw[QY]
 unfold p8
 simp -implicitDefEqProofs only[go_sem,seval,hB]
 rw[js]
 have fin:=v7 (E:=?_) (d:=?_) (K:=?_) (by':=24) (s:=s1) (r:=r) (l:=dj l k) (z:=([]:VL)) (v:=(iV l k:VL)) (sz:=1) ?_ h3 rfl (by rw[hkl];omega) ?_
 ·rw[hkl]at fin
  exact fin
 ·exact dZ.symm
 ·intro s2 r' g1 g2
  have hB2:s2 B2=some (.cells [iG r k]):=g1 _ _ h1
  have hB3:iw s2 r' (dj l k++[iV l k]) B2=some (.cells [iG r k]):=jf g2 hB2
  rw[hkl]
  generalize QV:iw s2 r' (dj l k++[iV l k])=st2 at hB3
  simp -implicitDefEqProofs only[go_sem,seval,hB3]
  obtain⟨q1,q2⟩:=Sv (o':=.cells [iG r' (k+1)]) g2 hB2
  refine⟨s2.set B2 (.cells [iG r' (k+1)]),r',cg ..,fun b o hb=>?_,?_,?_⟩
  ·have hne:b≠B2:=fun e=>by subst e;rw[hs0]at hb;cases hb
   rw[ai hne]
   exact g1 _ _ (h2 _ _ hb)
  ·rw[mD];exact q2
  ·rw[mD,<-QV];exact q1
theorem OF{l:List ab}{r:List ab×Int}{s:ae}(hl0:0<l.length)(h:lA l=some r):FE prog 218 [p8 l] s [.sl false 4 r.1.length (flat r.1),.int .i64 r.2] s:=by
 have bX:room=140737488355328:=rfl
 unfold lA at h
 obtain⟨⟨aiT,hl2⟩,h⟩:=RC h
 obtain⟨K,hK⟩:∃K,l.length=2*K:=⟨l.length/2,by omega⟩
 have hK2:l.length/2=K:=by omega
 rw[hK2]at h
 have jo:∀c∈dj l K,0<c.length:=fun c hc=>by
  unfold dj at hc
  obtain⟨k,hk,rfl⟩:=List.mem_map.1 hc
  rw[nj l k (by have:=List.mem_range.1 hk;omega)];decide
 have acZ:∀k,2*k<=l.length->(dj l k).flatten.length=2*k:=fun k=>by
  induction k with
  |zero=>intro _;rfl
  |succ k ih=>
   intro hk
   rw[mD,List.flatten_append,List.length_append,ih (by omega)]
   simp[nj l k (by omega)]
   omega
 have QA:(dj l K).length=K:=yY l K
 refine FN.ji ?_
 intro G w vs hg ho hs ha
 have hI:=pT (n:=40) hg hs ha (by rfl) (show 1<=40 by decide)
 refine callsIn_wide.1 (callsIn_of_wp_marks (n:=3) Go.Proofs.Tryz.func218 BK trivial ?_ rfl)
 rw[Jj]
 have mixed:=mix
 refine piece (jO mix) BL hI (aG.refl G w) (fun E'=>E'=⟨[(0,p8 l)],[],s⟩) ?_ ?_
 ·rw[vg];(conv in dec _=>reduce);unfold p8
  simp -implicitDefEqProofs only[go_sem,seval]
 rintro G1 σ1 a1 w1 hI1 hp1 rfl
 refine piece (jO mix) BM hI1 hp1 (fun E'=>∃B2,s B2=none/\E'=⟨[(0,p8 l),(4,.ref B2 0)],[],s.set B2 (.cells [.arr 0 0 0 0])⟩) ?_ ?_
 ·rw[vh];(conv in dec _=>reduce);unfold p8
  simp -implicitDefEqProofs only[go_sem,seval]
  intro B2 hB2
  exact⟨B2,hB2,rfl⟩
 rintro G2 σ2 a2 w2 hI2 hp2 ⟨B2,hB2,rfl⟩
 refine wpIn_seq (piece (jO mix) BN hI2 hp2 (fun E'=>∃Bs,(s.set B2 (.cells [.arr 0 0 0 0])) Bs=none/\∃Bn,((s.set B2 (.cells [.arr 0 0 0 0])).set Bs (.cells [p8 l])) Bn=none/\
  E'=⟨[(4,.ref B2 0),(8,.fn 276 [] [.ref Bs 0,.ref Bn 0])],[],((s.set B2 (.cells [.arr 0 0 0 0])).set Bs (.cells [p8 l])).set Bn (.cells [.int .i64 2])⟩) ?_ ?_)
 ·rw[vi];(conv in dec _=>reduce);unfold p8
  simp -implicitDefEqProofs only[go_sem,seval]
  refine HO fun Bs h1 Bn h2=>?_
  simp -implicitDefEqProofs only[go_sem,seval]
  exact⟨Bs,h1,Bn,h2,rfl⟩
 rintro G3 σ3 a3 w3 hI3 hp3 ⟨Bs,hBs,Bn,hBn,rfl⟩
 have n1:=hBs
 rw[eT]at n1
 have n2:=hBn
 rw[eT]at n2
 have n3:=n2.2
 rw[eT]at n3
 have hsz:=hI3.size
 have e8:a3.tmps[8]? =some (a3.eval (.tmp 8)):=fQ (by rw[hsz];decide)
 have e4:a3.tmps[4]? =some (a3.eval (.tmp 4)):=fQ (by rw[hsz];decide)
 have v8:VR w3 G3.R (.fn 276 [] [.ref Bs 0,.ref Bn 0]) (a3.eval (.tmp 8)):=(hI3.cu 8 _ e8).1
 have v4:VR w3 G3.R (.ref B2 0) (a3.eval (.tmp 4)):=(hI3.cu 4 _ e4).1
 obtain⟨vf,vc,hv8,hvf,_,hvc,Ge⟩:=VR.Gj v8
 obtain rfl:vf= #[]:=Array.eq_empty_of_size_eq_zero hvf
 obtain rfl:vc= #[.pointer (some ⟨Bs,0,none⟩),.pointer (some ⟨Bn,0,none⟩)]:=by
  obtain⟨vl⟩:=vc
  match vl,hvc,Ge with
  |[x,y],_,Ge=>rw[VR.fZ (Ge 0 _ x rfl rfl),VR.fZ (Ge 1 _ y rfl rfl)]
 have hBx:(((s.set B2 (.cells [.arr 0 0 0 0])).set Bs (.cells [p8 l])).set Bn (.cells [.int .i64 2])) Bs=some (.cells [p8 l]):=by rw[ai n2.1.symm,cg]
 have hBy:(((s.set B2 (.cells [.arr 0 0 0 0])).set Bs (.cells [p8 l])).set Bn (.cells [.int .i64 2])) Bn=some (.cells [.int .i64 2]):=cg ..
 obtain⟨hOs,_,cs,ts,hhs,⟨YK,YL⟩,_⟩:=hI3.store Bs _ hBx
 obtain⟨hOn,_,cn,tn,hhn,⟨YH,YI⟩,_⟩:=hI3.store Bn _ hBy
 obtain⟨x,rfl⟩:∃x,cs= #[x]:=by
  obtain⟨cl⟩:=cs
  match cl,YK with
  |[x],_=>exact⟨x,rfl⟩
 obtain⟨y,rfl⟩:∃y,cn= #[y]:=by
  obtain⟨cl⟩:=cn
  match cl,YH with
  |[x],_=>exact⟨x,rfl⟩
 have hx:VR w3 G3.R (p8 l) x:=(YL 0 _ x rfl rfl).1
 have hy:y=.int .i64 2:=VR.b8 (YI 0 _ y rfl rfl).1
 subst hy
 unfold p8 at hx
 rcases VR.il hx with⟨_,he,_⟩|⟨b,off,cap,rfl,hlen,hRb,fh,hat⟩
 ·exact absurd he (by omega)
 refine wpIn_block ?_
 rw[Wq,PG]
 let tA:Nat->Array Value:=fun k=>a3.tmps.setIfInBounds 9 (eZ b off k)
 have QI:∀k,((#[9]:Array Tmp).zip #[eZ b off k]).foldl (fun t(p,v)=>t.setIfInBounds p v) a3.tmps=tA k:=fun k=>by simp[tA]
 have hav:∀k,k<K->VR w3 G3.R (p8 (iV l k)) (eZ b off k):=fun k hk=>PW hRb hat (by omega)
 refine XK hI3 hv8 (fun args w=>kX Go.Proofs.Tryz.func276 (by kernel_rfl) (by kernel_rfl) args) (K:=K) (kZ:=eZ b off) (avs:=fun k=>p8 (iV l k)) (S:=Fe s B2 l) [Bs,Bn] ?_ hav ?_ (fun k=>({tmps:=tA k,defers:=[]}:Act).put (some 5) (eZ b off k)) ?_ ?_ ?_ ?_
 ·intro b' hb'
  simp only[List.mem_cons,List.not_mem_nil,or_false]at hb'
  rcases hb' with rfl|rfl
  ·exact lX.2 hOs
  ·exact lX.2 hOn
 ·refine⟨_,none,?_,fun b' o hb'=>?_,rfl,rfl⟩
  ·show(if B2∈[Bs,Bn]then none else(((s.set B2 (.cells [.arr 0 0 0 0])).set Bs (.cells [p8 l])).set Bn (.cells [.int .i64 2])) B2)=_
   rw[if_neg (by simp only[List.mem_cons,List.not_mem_nil,or_false,not_or];exact⟨n1.1.symm,n3.1.symm⟩),ai n3.1.symm,ai n1.1.symm,cg]
   rfl
  ·have e1:b'≠B2:=fun e=>by subst e;rw[hB2]at hb';cases hb'
   have e2:b'≠Bs:=fun e=>by subst e;rw[n1.2]at hb';cases hb'
   have e3:b'≠Bn:=fun e=>by subst e;rw[n3.2]at hb';cases hb'
   show(if b'∈[Bs,Bn]then none else(((s.set B2 (.cells [.arr 0 0 0 0])).set Bs (.cells [p8 l])).set Bn (.cells [.int .i64 2])) b')=_
   rw[if_neg (by simp only[List.mem_cons,List.not_mem_nil,or_false,not_or];exact⟨e2,e3⟩),ai e3,ai e2,ai e1]
   exact hb'
 ·intro lo J W hbx hdr hY h0
  have c1:w3.cell? ⟨Bs,0,none⟩=some (.slice (some ⟨b,off,none⟩) (2*K) cap):=by rw[<-hK];simp[World.cell?,hhs]
  have c2:w3.cell? ⟨Bn,0,none⟩=some (.int .i64 2):=by simp[World.cell?,hhn]
  exact NS (lo:=lo) (Bs:=Bs) (Bn:=Bn) (b:=b) (off:=off) (K:=K) (cap:=cap) (by omega) (by omega) (fun k W h=>⟨(World.cell?_of_block (hbx k W h Bs (by simp))).trans c1,(World.cell?_of_block (hbx k W h Bn (by simp))).trans c2⟩) hdr hY h0
 ·intro lo k W K' hk
  rw[QI]
  have hev:({tmps:=tA k,defers:=[]}:Act).eval (.tmp 9)=eZ b off k:=by
   show(a3.tmps.setIfInBounds 9 (eZ b off k)).getD 9 undef=_
   rw[Array.getD_eq_getD_getElem?,Array.getElem?_setIfInBounds_self_of_lt (by rw[hsz];decide)]
   rfl
  refine wpIn_region_list (wpListIn_plain rfl fun K2 hK2=>⟨fun _ _=>trivial,?_⟩)
  rw[<-hev]at hk
  exact hK2 _ _ hk
 ·intro k hk lo G' W s' g1 g2 g3 hS hv R hR
  refine Su Lp Ji (UH (n:=40) (i:=4) (j:=5) (x:=.ref B2 0) (y:=p8 (iV l k)) (t:=(tA k).setIfInBounds 5 (eZ b off k)) (by decide) (by decide) (by decide) g1 g3 ?_ ⟨rfl,rfl⟩ ⟨rfl,rfl⟩ ?_ ?_) (Lo hB2 (by omega) (nj l k (by omega)) hS) hR
  ·show((a3.tmps.setIfInBounds 9 _).setIfInBounds 5 _).size=_
   rw[Array.size_setIfInBounds,Array.size_setIfInBounds,hsz]
  ·intro v hv4
   have hv4:((a3.tmps.setIfInBounds 9 (eZ b off k)).setIfInBounds 5 (eZ b off k))[4]? =some v:=hv4
   rw[Array.getElem?_setIfInBounds_ne (by decide),Array.getElem?_setIfInBounds_ne (by decide),e4,VR.fZ v4]at hv4
   injection hv4 with hv4
   rw[<-hv4]
   exact .ref _ _
  ·intro v hv5
   have hv5:((a3.tmps.setIfInBounds 9 (eZ b off k)).setIfInBounds 5 (eZ b off k))[5]? =some v:=hv5
   rw[Array.getElem?_setIfInBounds_self_of_lt (by rw[Array.size_setIfInBounds,hsz];decide)]at hv5
   injection hv5 with hv5
   rw[<-hv5]
   exact hv
 ·intro G4 W4 s4 hS hI4 hp4 agH
  obtain⟨s1,r1,h1,h2,h3,rfl⟩:=hS
  obtain⟨rb,aiD,sp,rfl⟩:=LC h3 (by rw[QA];omega)
  have hlt:w3.heap.size<(w3.alloc (.deferred (some []))).heap.size:=by rw[World.size_alloc];omega
  refine last (jO mix) BO (hI4.vp [4]) hp4 (vJ gP fun rs s''=>∃s2,Sub s2 s''/\(rs=[.sl false 4 r.1.length (flat r.1),.int .i64 r.2]/\s2=s)) ?_ ?_
  ·refine Jl (s:=s) (by rw[QA];exact h1) h3.1 h2 (by rw[QA];omega) jo (by rw[acZ K (by omega)];omega) (fun e s' hs'=>?_) (fun e s' hs'=>?_)
   ·rw[e,cond_true]at h
    cases h
    exact⟨s,hs',rfl,rfl⟩
   ·rw[e,cond_false]at h
    cases h
    exact⟨s,hs',rfl,rfl⟩
  ·intro x G5 E' a' W5 k1 k2 k3
   have oK:∀(dq:qf (kp E' gP)=true)(hq:∃s2,Sub s2 E'.s/\(kp E' gP=[.sl false 4 r.1.length (flat r.1),.int .i64 r.2]/\s2=s)),_:=fun dq hq=>Jz (Q:=fun rs s''=>∃s2,Sub s2 s''/\(rs=[.sl false 4 r.1.length (flat r.1),.int .i64 r.2]/\s2=s)) EL k1 ((hp3.trans (fq hI3.ba _ .frame 0).2.1).trans k2) (k2.jy _ hlt (by simp)).1 ((k2.jy _ hlt (by simp)).2.trans (by simp)) ((k2.frame _ hlt (.inl (by simp))).trans (World.alloc_heap_new w3 _)) hp3.size dq hq
   cases x with
   |ret=>exact oK k3.1 k3.2
   |normal=>exact oK k3.1 k3.2
   |_=>exact k3.elim
theorem Km{s:ae}{Q:List AV->ae->Prop}(hq:∀s' r',Sub s s'->fB s' r' ([]:List ab)->Q [iG r' 0] (iw s' r' ([]:List ab))):FN prog 252 [.arr 0 0 0 0] s Q:=by
 have bX:room=140737488355328:=rfl
 refine FO Eo rfl rfl ?_
 rw[yg]
 conv in dec _=>reduce
 have h1:decide ((0:Int)<0)=false:=rfl
 simp -implicitDefEqProofs only[go_sem,seval]
 refine iq 0 (fun _ τ=>τ=(⟨[(0,.arr 0 0 0 0),(3,.int .i64 0),(9,.arr 0 0 0 0),(10,.int .i64 0),(11,.int .i64 0)],[],s⟩:St)) (by decide) rfl (fun k hk=>by omega) ?_
 rintro J τ rfl
 simp -implicitDefEqProofs only[go_sem,seval,h1,bL]
 refine MF (k:=0) (by omega) fun s1 r1 hs1 hr1=>?_
 simp -implicitDefEqProofs only[go_sem,seval,bL]
 refine iq 0 (fun _ τ=>τ=(⟨[(6,iG r1 0),(25,.arr 0 0 0 0),(26,.int .i64 0),(27,.int .i64 0)],[],iw s1 r1 ([]:List ab)⟩:St)) (by decide) ?_ (fun k hk=>by omega) ?_
 ·first|rfl|trace_state
 rintro J τ rfl
 simp -implicitDefEqProofs only[go_sem,seval,h1,bL]
 exact hq s1 r1 hs1 hr1
theorem Jk{s s1:ae}{B2:Nat}{Q:List AV->ae->Prop}(hB:s1 B2=some (.cells [.arr 0 0 0 0]))(hs:Sub s s1)(q0:∀s',Sub s s'->Q [.sl false 4 0 [],.int .i64 0] s'):
 fD prog nv (vJ gP Q) ⟨[(4,.ref B2 0)],[],s1⟩:=by
 rw[nv,gP]
 conv in dec _=>reduce
 have h1:decide ((1:Int)<0)=false:=rfl
 simp -implicitDefEqProofs only[go_sem,seval,hB]
 refine SD ?_
 simp -implicitDefEqProofs only[go_sem,seval,bL]
 refine iq 0 (fun _ τ=>τ=(⟨[(4,.ref B2 0),(6,.int .i64 1)],[],s1⟩:St)) (by decide) rfl (fun k hk=>by omega) ?_
 rintro J τ rfl
 simp -implicitDefEqProofs only[go_sem,seval,hB,h1,bL]
 refine Km fun s' r' hs' ve=>?_
 simp -implicitDefEqProofs only[go_sem,seval,bL]
 refine Ga rfl ve rfl ?_
 simp -implicitDefEqProofs only[go_sem,seval,bL]
 exact q0 s' fun b o h=>hs' b o (hs b o h)
end Go.AB
end
section
set_option maxRecDepth 4000
namespace Go.AB
open Go Go.Proofs Go.RowKit
open Go.Proofs.Tryz (prog)
attribute[local go_sem] Oper.semAt_some
set_option maxHeartbeats 2000000 in
theorem NQ{lo Bs Bn cap:Nat}{pt:Option Addr}{J:World->Prop}{W:World}(Um:∀W,J W->W.cell? ⟨Bs,0,none⟩=some (.slice pt 0 cap)/\W.cell? ⟨Bn,0,none⟩=some (.int .i64 2))(hd:∀W,J W->J W.drew)(h0:J W):
 CallsIn Fence.wide 2 prog 276 #[.func (.yield lo) #[] #[],.pointer (some ⟨Bs,0,none⟩),.pointer (some ⟨Bn,0,none⟩)] W fun e W'=>(∃v,e=.returned v)/\J W':=by
 have mixed:=mix
 refine callsIn_of_wp Go.Proofs.Tryz.func276 rfl trivial ?_ rfl
 simp only[show Go.Proofs.Tryz.f276.ntmps=31 from rfl,List.size_toArray,List.length_cons,List.length_nil,Nat.reduceAdd,Nat.reduceSub,Array.replicate_succ,Array.replicate_zero,List.push_toArray,List.append_toArray,List.nil_append,List.cons_append]
 gi_wp2
 gi_loopw [4] (fun i wr=>i=.int .i64 0/\J wr) (fun _ _=>0)
 case atStart=>exact⟨rfl,h0⟩
 case round=>
  obtain⟨rfl,hJ⟩:=hrel
  obtain⟨hb1,hb2⟩:=Um _ hJ
  gi_wp2
  go_end0
  exact⟨⟨_,rfl⟩,hJ⟩
end Go.AB
end
section
set_option maxRecDepth 4000
namespace Go.AB
open Go
open Go.Proofs.Tryz (prog)
attribute[-go_sem] Nat.add_zero mI cE cy cU bQ cw
theorem OE{s:ae}:FE prog 218 [p8 []] s [.sl false 4 0 [],.int .i64 0] s:=by
 have bX:room=140737488355328:=rfl
 refine FN.ji ?_
 intro G w vs hg ho hs ha
 have hI:=pT (n:=40) hg hs ha (by rfl) (show 1<=40 by decide)
 refine callsIn_wide.1 (callsIn_of_wp_marks (n:=3) Go.Proofs.Tryz.func218 BK trivial ?_ rfl)
 rw[Jj]
 have mixed:=mix
 refine piece (jO mix) BL hI (aG.refl G w) (fun E'=>E'=⟨[(0,p8 [])],[],s⟩) ?_ ?_
 ·rw[vg];(conv in dec _=>reduce);unfold p8
  simp -implicitDefEqProofs only[go_sem,seval]
 rintro G1 σ1 a1 w1 hI1 hp1 rfl
 refine piece (jO mix) BM hI1 hp1 (fun E'=>∃B2,s B2=none/\E'=⟨[(0,p8 []),(4,.ref B2 0)],[],s.set B2 (.cells [.arr 0 0 0 0])⟩) ?_ ?_
 ·rw[vh];(conv in dec _=>reduce);unfold p8
  simp -implicitDefEqProofs only[go_sem,seval]
  intro B2 hB2
  exact⟨B2,hB2,rfl⟩
 rintro G2 σ2 a2 w2 hI2 hp2 ⟨B2,hB2,rfl⟩
 refine wpIn_seq (piece (jO mix) BN hI2 hp2 (fun E'=>∃Bs,(s.set B2 (.cells [.arr 0 0 0 0])) Bs=none/\∃Bn,((s.set B2 (.cells [.arr 0 0 0 0])).set Bs (.cells [p8 []])) Bn=none/\
  E'=⟨[(4,.ref B2 0),(8,.fn 276 [] [.ref Bs 0,.ref Bn 0])],[],((s.set B2 (.cells [.arr 0 0 0 0])).set Bs (.cells [p8 []])).set Bn (.cells [.int .i64 2])⟩) ?_ ?_)
 ·rw[vi];(conv in dec _=>reduce);unfold p8
  simp -implicitDefEqProofs only[go_sem,seval]
  refine HO (l:=[]) fun Bs h1 Bn h2=>?_
  simp -implicitDefEqProofs only[go_sem,seval]
  exact⟨Bs,h1,Bn,h2,rfl⟩
 rintro G3 σ3 a3 w3 hI3 hp3 ⟨Bs,hBs,Bn,hBn,rfl⟩
 have n1:=hBs
 rw[eT]at n1
 have n2:=hBn
 rw[eT]at n2
 have n3:=n2.2
 rw[eT]at n3
 have hsz:=hI3.size
 have e8:a3.tmps[8]? =some (a3.eval (.tmp 8)):=fQ (by rw[hsz];decide)
 have e4:a3.tmps[4]? =some (a3.eval (.tmp 4)):=fQ (by rw[hsz];decide)
 have v8:VR w3 G3.R (.fn 276 [] [.ref Bs 0,.ref Bn 0]) (a3.eval (.tmp 8)):=(hI3.cu 8 _ e8).1
 have v4:VR w3 G3.R (.ref B2 0) (a3.eval (.tmp 4)):=(hI3.cu 4 _ e4).1
 obtain⟨vf,vc,hv8,hvf,_,hvc,Ge⟩:=VR.Gj v8
 obtain rfl:vf= #[]:=Array.eq_empty_of_size_eq_zero hvf
 obtain rfl:vc= #[.pointer (some ⟨Bs,0,none⟩),.pointer (some ⟨Bn,0,none⟩)]:=by
  obtain⟨vl⟩:=vc
  match vl,hvc,Ge with
  |[x,y],_,Ge=>rw[VR.fZ (Ge 0 _ x rfl rfl),VR.fZ (Ge 1 _ y rfl rfl)]
 have hBx:(((s.set B2 (.cells [.arr 0 0 0 0])).set Bs (.cells [p8 []])).set Bn (.cells [.int .i64 2])) Bs=some (.cells [p8 []]):=by rw[ai n2.1.symm,cg]
 have hBy:(((s.set B2 (.cells [.arr 0 0 0 0])).set Bs (.cells [p8 []])).set Bn (.cells [.int .i64 2])) Bn=some (.cells [.int .i64 2]):=cg ..
 obtain⟨hOs,_,cs,ts,hhs,⟨YK,YL⟩,_⟩:=hI3.store Bs _ hBx
 obtain⟨hOn,_,cn,tn,hhn,⟨YH,YI⟩,_⟩:=hI3.store Bn _ hBy
 obtain⟨x,rfl⟩:∃x,cs= #[x]:=by
  obtain⟨cl⟩:=cs
  match cl,YK with
  |[x],_=>exact⟨x,rfl⟩
 obtain⟨y,rfl⟩:∃y,cn= #[y]:=by
  obtain⟨cl⟩:=cn
  match cl,YH with
  |[x],_=>exact⟨x,rfl⟩
 have hx:VR w3 G3.R (p8 []) x:=(YL 0 _ x rfl rfl).1
 have hy:y=.int .i64 2:=VR.b8 (YI 0 _ y rfl rfl).1
 subst hy
 unfold p8 at hx
 obtain⟨pt,cap,rfl⟩:∃pt cap,x=.slice pt 0 cap:=by
  rcases VR.il hx with⟨he,_,_⟩|⟨b,off,cap,rfl,_,_,_,_⟩
  ·exact he.ex
  ·exact⟨_,_,rfl⟩
 have QI:((#[9]:Array Tmp).zip #[undef]).foldl (fun t(p,v)=>t.setIfInBounds p v) a3.tmps=a3.tmps.setIfInBounds 9 undef:=by simp
 refine wpIn_block ?_
 rw[Wq,PG]
 refine XK hI3 hv8 (fun args w=>kX Go.Proofs.Tryz.func276 (by kernel_rfl) (by kernel_rfl) args) (K:=0) (kZ:=fun _=>undef) (avs:=fun _=>.undef) (S:=fun _ s'=>s' B2=some (.cells [.arr 0 0 0 0])/\Sub s s') [Bs,Bn] ?_ (fun k hk=>by omega) ?_ (fun k=>({tmps:=a3.tmps.setIfInBounds 9 undef,defers:=[]}:Act).put (some 5) undef) ?_ ?_ (fun k hk=>by omega) ?_
 ·intro b' hb'
  simp only[List.mem_cons,List.not_mem_nil,or_false]at hb'
  rcases hb' with rfl|rfl
  ·exact lX.2 hOs
  ·exact lX.2 hOn
 ·refine⟨?_,fun b' o hb'=>?_⟩
  ·show(if B2∈[Bs,Bn]then none else(((s.set B2 (.cells [.arr 0 0 0 0])).set Bs (.cells [p8 []])).set Bn (.cells [.int .i64 2])) B2)=_
   rw[if_neg (by simp only[List.mem_cons,List.not_mem_nil,or_false,not_or];exact⟨n1.1.symm,n3.1.symm⟩),ai n3.1.symm,ai n1.1.symm,cg]
  ·have e1:b'≠B2:=fun e=>by subst e;rw[hB2]at hb';cases hb'
   have e2:b'≠Bs:=fun e=>by subst e;rw[n1.2]at hb';cases hb'
   have e3:b'≠Bn:=fun e=>by subst e;rw[n3.2]at hb';cases hb'
   show(if b'∈[Bs,Bn]then none else(((s.set B2 (.cells [.arr 0 0 0 0])).set Bs (.cells [p8 []])).set Bn (.cells [.int .i64 2])) b')=_
   rw[if_neg (by simp only[List.mem_cons,List.not_mem_nil,or_false,not_or];exact⟨e2,e3⟩),ai e3,ai e2,ai e1]
   exact hb'
 ·intro lo J W hbx hdr hY h0
  have c1:w3.cell? ⟨Bs,0,none⟩=some (.slice pt 0 cap):=by simp[World.cell?,hhs]
  have c2:w3.cell? ⟨Bn,0,none⟩=some (.int .i64 2):=by simp[World.cell?,hhn]
  exact NQ (lo:=lo) (Bs:=Bs) (Bn:=Bn) (J:=J 0) (fun W h=>⟨(World.cell?_of_block (hbx 0 W h Bs (by simp))).trans c1,(World.cell?_of_block (hbx 0 W h Bn (by simp))).trans c2⟩) (fun W h=>hdr 0 W h) h0
 ·intro lo k W K' hk
  rw[QI]
  have hev:({tmps:=a3.tmps.setIfInBounds 9 undef,defers:=[]}:Act).eval (.tmp 9)=undef:=by
   show(a3.tmps.setIfInBounds 9 (undef)).getD 9 undef=_
   rw[Array.getD_eq_getD_getElem?,Array.getElem?_setIfInBounds_self_of_lt (by rw[hsz];decide)]
   rfl
  refine wpIn_region_list (wpListIn_plain rfl fun K2 hK2=>⟨fun _ _=>trivial,?_⟩)
  have hk2:K' (({tmps:=a3.tmps.setIfInBounds 9 undef,defers:=[]}:Act).put (some 5) (({tmps:=a3.tmps.setIfInBounds 9 undef,defers:=[]}:Act).eval (.tmp 9))) W:=by rw[hev];exact hk
  exact hK2 _ _ hk2
 ·intro G4 W4 s4 hS hI4 hp4 agH
  obtain⟨h1,h2⟩:=hS
  have hlt:w3.heap.size<(w3.alloc (.deferred (some []))).heap.size:=by rw[World.size_alloc];omega
  refine last (jO mix) BO (hI4.vp [4]) hp4 (vJ gP fun rs s''=>∃s2,Sub s2 s''/\(rs=[.sl false 4 0 [],.int .i64 0]/\s2=s)) ?_ ?_
  ·exact Jk (s:=s) h1 h2 fun s' hs'=>⟨s,hs',rfl,rfl⟩
  ·intro x G5 E' a' W5 k1 k2 k3
   have oK:∀(dq:qf (kp E' gP)=true)(hq:∃s2,Sub s2 E'.s/\(kp E' gP=[.sl false 4 0 [],.int .i64 0]/\s2=s)),_:=fun dq hq=>Jz (Q:=fun rs s''=>∃s2,Sub s2 s''/\(rs=[.sl false 4 0 [],.int .i64 0]/\s2=s)) EL k1 ((hp3.trans (fq hI3.ba _ .frame 0).2.1).trans k2) (k2.jy _ hlt (by simp)).1 ((k2.jy _ hlt (by simp)).2.trans (by simp)) ((k2.frame _ hlt (.inl (by simp))).trans (World.alloc_heap_new w3 _)) hp3.size dq hq
   cases x with
   |ret=>exact oK k3.1 k3.2
   |normal=>exact oK k3.1 k3.2
   |_=>exact k3.elim
end Go.AB
end
section
namespace Go.AB
open Go
open Go.Proofs.Tryz (prog)
theorem RY:vX lA:=fun s l r h=>by
 cases l with
 |nil=>
  have e:lA []=some ([],0):=rfl
  rw[e]at h;cases h
  exact OE
 |cons x l=>exact OF (by simp) h
def kl(b:List UInt8)(a:Int)(last:Bool):Option (ab×Int×Int):=qD lA b a last
theorem BP{b:List UInt8}{a:Int}{last:Bool}{s:ae}{r:ab×Int×Int}(h:kl b a last=some r):FE prog 127 [.sl false 1 b.length (flat b),.int .i64 a,.bool last] s
 [.agg [.int .i64 r.1.Kind,.int .i64 r.1.N,.str r.1.S.b,.sl false 4 r.1.L.length (flat r.1.L)],.int .i64 r.2.1,.int .i64 r.2.2] s:=
 FN.ji (Th RY ⟨r,h,fun s' hs=>⟨s,hs,rfl,rfl⟩⟩)
end Go.AB
end
section
end
section
set_option maxRecDepth 16000
namespace Go.AB
open Go
open Go.Proofs.Tryz (prog)
attribute[-go_sem] cy cU bQ cw
structure b9 where
 b_:(List UInt8)
 at_:Int
 aS:Bool
instance:aP b9:=⟨3,fun x=>[sF 1 x.b_,.int .i64 x.at_,.bool x.aS],(b9.mk [] 0 false),by decide,fun _=>rfl,fun _=>rfl⟩
structure af where
 az:b9
 e_:Int
instance:aP af:=⟨4,fun x=>[sF 1 x.az.b_,.int .i64 x.az.at_,.bool x.az.aS,.int .i64 x.e_],(af.mk (b9.mk [] 0 false) 0),by decide,fun _=>rfl,fun _=>rfl⟩
@[go_sem]abbrev AP(x:af):List AV:=[sF 1 x.az.b_,.int .i64 x.az.at_,.bool x.az.aS,.int .i64 x.e_]
def aw(r_0:af)(e_1:Int):Option (af):=
 if r_0.e_==0 then
  some (af.mk r_0.az e_1)
 else
  some r_0
theorem c8{r_0 e_1}{B0:Nat}{s:ae}{Q:List AV->ae->Prop}(hB0:s B0=some (.cells (AP r_0))):ok (aw r_0 e_1) (fun r=>Q [] (s.set B0 (.cells (AP r))))->FN prog 133 [.ref B0 0,.int .i64 e_1] s Q:=by
 rw[<-bj hB0]
 exact FC 13 [] 0x189bdbb9d437a531ec04b8efcb9da2151040490aa07b0a71453e aw.eq_1
def ax(r_0:af)(w_1:bk):Option (af):=
 if r_0.e_ !=0 then
  some r_0
 else
  bn (lC r_0.az.b_ r_0.az.at_ r_0.az.aS w_1) fun r1=>
  some (af.mk (b9.mk r_0.az.b_ r1.1 r_0.az.aS) r1.2)
theorem iZ{r_0 w_1}{B0:Nat}{s:ae}{Q:List AV->ae->Prop}(hB0:s B0=some (.cells (AP r_0))):ok (ax r_0 w_1) (fun r=>Q [] (s.set B0 (.cells (AP r))))->FN prog 101 [.ref B0 0,.str w_1.b] s Q:=by
 rw[<-bj hB0]
 refine FR 36 [] 0x881fd93eadf024c39bb86fe7c2fe06133933d5026eaaf01639f1abb147d7c7dc42eb231f7ced17c2d766731c2fb33c89931c3ffa45340169383c2f97024fc51e993bccb0b00e2cd90a822f3cf54e8eb62ac40950de978c675375016b022097b3b5b9d50d6a3fc0de0ab2d3321a915fa4535dfb6f2e ax.eq_1 ?_
 repeat'(first
  |(with_reducible first|exact dQ|refine cI ?_ ?_|refine er ?_|refine aQ (fun _(h:lC r_0.az.b_ r_0.az.at_ r_0.az.aS w_1=some _)=>(kc Dx h:)) (fun r1=>?_))
  |simp -implicitDefEqProofs only[go_sem,seval])
def bU(r_0:af)(F9:Int)(VX:Int):Option (Int×af):=
 if r_0.e_ !=0 then
  some (0,r_0)
 else
  bn (iu r_0.az.b_ r_0.az.at_ r_0.az.aS) fun r1=>
  jn (
   if(r1.2.2==0)&&((decide (r1.1<F9))||(decide (r1.1>VX)))then
    some 18
   else
    some r1.2.2) fun(e4:Int)=>
  some (r1.1,(af.mk (b9.mk r_0.az.b_ r1.2.1 r_0.az.aS) e4))
theorem kN{r_0 F9 VX}{B0:Nat}{s:ae}{Q:List AV->ae->Prop}(hB0:s B0=some (.cells (AP r_0))):ok (bU r_0 F9 VX) (fun r=>Q [.int .i64 r.1] (s.set B0 (.cells (AP r.2))))->FN prog 100 [.ref B0 0,.int .i64 F9,.int .i64 VX] s Q:=by
 rw[<-bj hB0]
 refine FR 57 [⟨6,true,none⟩] 0x1e5f58e73b352379f45586987cd2bafab7ba13aa5d684a7be134ab9894ffefb7c7a07ebf21da867f8192cd2eeb15169eca7be21786252b2da6e48490880ffcb4f4816339129d600cd9fc7638c1039b985d395b0948f92b70b8956c49cd048caa6219e9377cf56972e0ad12798ed3159d04bdbf976ff7ddd46bf7662cdc0a3425f63416c2d449cee991ad1c19188ca8767c9a4392cd64a80c830cca55ebc64023cdff723ecb996a3f5e8976400c0ba bU.eq_1 ?_
 repeat'(first
  |(with_reducible first|exact dQ|refine cI ?_ ?_|refine er ?_|refine cY (fun _(h:iu r_0.az.b_ r_0.az.at_ r_0.az.aS=some _)=>(kc zW h:)) (fun _=>rfl) (fun r1=>?_))
  |((with_reducible refine eJ (fun(e4:Int)=>⟨[(0,.ref B0 0),(7,.int .i64 r1.1),(8,.int .i64 r1.2.1),(9,.int .i64 e4)],[],(s.set B0 (.cells (AP r_0)))⟩) (fun J=>?_) ?_);rotate_left;rintro e4)
  |simp -implicitDefEqProofs only[go_sem,seval])
def bw(r_0:af):Option (ab×af):=
 if r_0.e_ !=0 then
  some ((ab.mk 0 0 (bk.mk []) ([]:List ab)),r_0)
 else
  bn (kl r_0.az.b_ r_0.az.at_ r_0.az.aS) fun r1=>
  some (r1.1,(af.mk (b9.mk r_0.az.b_ r1.2.1 r_0.az.aS) r1.2.2))
theorem rj{r_0}{B0:Nat}{s:ae}{Q:List AV->ae->Prop}(hB0:s B0=some (.cells (AP r_0))):ok (bw r_0) (fun r=>Q [oV r.1] (s.set B0 (.cells (AP r.2))))->FN prog 103 [.ref B0 0] s Q:=by
 rw[<-bj hB0]
 refine FR 42 [⟨2,false,some (4,true)⟩] 0x111deb00c874be5b9590d168fde9cce2d4d5b19cf723618731d2f569433517b763c0cedee1862b1a7ead0a0e3c63f65395cfcb80472444a93aa901c184021231b72fae12df18a9901f8507cc650d283d38e3c5388890f9bad9796a0eabf38359306986124e8c018d26f38299548e8505e7a1ea38ab19e23cdff723ec9916a81421f991eb37e0092753a bw.eq_1 ?_
 repeat'(first
  |with_reducible exact dQ
  |((with_reducible refine NJ ?_ ?_);exact rfl)
  |(with_reducible first|refine cI ?_ ?_|refine er ?_|refine cY (fun _(h:kl r_0.az.b_ r_0.az.at_ r_0.az.aS=some _)=>BP h) (fun _=>rfl) (fun r1=>?_))
  |simp -implicitDefEqProofs only[go_sem,seval])
def aO(r_0:af):Option (Bool×af):=
 if r_0.e_ !=0 then
  some (false,r_0)
 else
  bn (dI r_0.az.b_ r_0.az.at_ r_0.az.aS) fun r1=>
  jn (
   if r1.2 !=0 then
    some (af.mk (b9.mk r_0.az.b_ r1.1.To r_0.az.aS) r1.2)
   else
    if r1.1.Kind==0 then
     bn (aw (af.mk (b9.mk r_0.az.b_ r1.1.To r_0.az.aS) r1.2) 10) fun r4=>
     some r4
    else
     if(r1.1.Kind !=6)||((!(r1.1.S.b==(bk.mk [101,110,100,111,98,106]).b))&&(!(r1.1.S.b==(bk.mk [115,116,114,101,97,109]).b)))then
      bn (aw (af.mk (b9.mk r_0.az.b_ r1.1.To r_0.az.aS) r1.2) 18) fun r5=>
      some r5
     else
      some (af.mk (b9.mk r_0.az.b_ r1.1.To r_0.az.aS) r1.2)) fun(o3:af)=>
  some ((o3.e_==0)&&(r1.1.S.b==(bk.mk [115,116,114,101,97,109]).b),o3)
theorem py{r_0}{B0:Nat}{s:ae}{Q:List AV->ae->Prop}(hB0:s B0=some (.cells (AP r_0))):ok (aO r_0) (fun r=>Q [.bool r.1] (s.set B0 (.cells (AP r.2))))->FN prog 104 [.ref B0 0] s Q:=by
 rw[<-bj hB0]
 refine FR 74 [⟨2,true,none⟩] 0x1f7f7f3fabca7231f275b9510103907cb2250cfa41e40dce40fea326a5ae76cef0f3fd16d8be6b8249c205c08fd73061018bc5571f844a40412bf6ce21066658f3ca5bc6ac99d38688e08665bde5d512726adb4d808094650fb1bec7193609e67b3d3d99d470fc0dd237faec32fa627ffd8cde17561e53f744782c850fa0ea9535655ba16d8c76d63fe45ce8b742516e83ae181803f5545e79280e0489487a5160ec821e97783ec1ccfabcb461ba835c378ebb29313afd90b8dd78cb9ec3886b30d4ca42b4d813309dbbb9904a4f8a14d36bab56f3749ee5e88f43f7662cdc0a3425f63416c2d449cee991ad19ec918065e47f6ec272f216f1fc19cfba8e8fc23cdff723ec99129a1b2c824473a aO.eq_1 ?_
 repeat'(first
  |with_reducible exact dQ
  |((with_reducible refine NJ ?_ ?_);exact rfl)
  |(with_reducible first|refine cI ?_ ?_|refine er ?_|refine cY (fun _(h:dI r_0.az.b_ r_0.az.at_ r_0.az.aS=some _)=>(kc ke h:)) (fun _=>rfl) (fun r1=>?_)|refine fun hh=>c8 (B0:=B0) (by simp -implicitDefEqProofs only[go_sem,seval]<;>simp only[an]) (aK (show ok (aw (af.mk (b9.mk r_0.az.b_ r1.1.To r_0.az.aS) r1.2) 10) _ from hh) fun r4=>?_)|refine fun hh=>c8 (B0:=B0) (by simp -implicitDefEqProofs only[go_sem,seval]<;>simp only[an]) (aK (show ok (aw (af.mk (b9.mk r_0.az.b_ r1.1.To r_0.az.aS) r1.2) 18) _ from hh) fun r5=>?_))
  |((with_reducible refine eJ (fun(o3:af)=>⟨[(0,.ref B0 0),(3,.loc [.int .i64 r1.1.Kind,.int .i64 r1.1.aR,.int .i64 r1.1.To,.int .i64 r1.1.V.Kind,.int .i64 r1.1.V.N,.str r1.1.V.S.b,sF 4 r1.1.V.L,.str r1.1.S.b])],[],(s.set B0 (.cells (AP o3)))⟩) (fun J=>?_) ?_);rotate_left;rintro o3)
  |simp -implicitDefEqProofs only[go_sem,seval])
def de(p_0:b9):Option (Int):=
 if p_0.aS then
  some 10
 else
  some 6
theorem tK{p_0}{B0:Nat}{preB0 postB0:List AV}{oB0:Nat}{s:ae}{Q:List AV->ae->Prop}(hB0:s B0=some (.cells (Wi preB0 [sF 1 p_0.b_,.int .i64 p_0.at_,.bool p_0.aS] postB0)))(eB0:preB0.length=oB0):ok (de p_0) (fun r=>Q [.int .i64 r] s)->FN prog 169 [.ref B0 oB0] s Q:=by
 subst eB0
 rw[<-bj hB0]
 exact FC 7 [⟨2,true,none⟩] 0x6de8cfafaf9a6b582a0ce164a71a255e1b07feb50a5a1ffcc00473a de.eq_1
theorem mq{p_0}{B0:Nat}{preB0 postB0:List AV}{oB0:Nat}{s:ae}{r:Int}(hB0:s B0=some (.cells (Wi preB0 [sF 1 p_0.b_,.int .i64 p_0.at_,.bool p_0.aS] postB0)))(eB0:preB0.length=oB0)(h:de p_0=some r):FE prog 169 [.ref B0 oB0] s [.int .i64 r] s:=tK hB0 eB0 ⟨r,h,rfl,rfl⟩
def aZ(r_0:af):Option (af):=
 jn (
  bt ((decide (r_0.az.at_<(r_0.az.b_.length:Int)))=true->0<=r_0.az.at_/\r_0.az.at_<r_0.az.b_.length)<|
  if(decide (r_0.az.at_<(r_0.az.b_.length:Int)))&&(((ix r_0.az.b_ r_0.az.at_).toNat:Int)==13)then
   some (af.mk (b9.mk r_0.az.b_ (aC (r_0.az.at_+1)) r_0.az.aS) r_0.e_)
  else
   some r_0) fun(o1:af)=>
 if o1.e_ !=0 then
  some o1
 else
  if decide (o1.az.at_>=(o1.az.b_.length:Int))then
   bn (de o1.az) fun r2=>
   bn (aw o1 r2) fun r3=>
   some r3
  else
   bt (0<=o1.az.at_/\o1.az.at_<o1.az.b_.length)<|
   if((ix o1.az.b_ o1.az.at_).toNat:Int)!=10 then
    bn (aw o1 18) fun r4=>
    some r4
   else
    some (af.mk (b9.mk o1.az.b_ (aC (o1.az.at_+1)) o1.az.aS) o1.e_)
theorem rN{r_0}{B0:Nat}{s:ae}{Q:List AV->ae->Prop}(hB0:s B0=some (.cells (AP r_0))):ok (aZ r_0) (fun r=>Q [] (s.set B0 (.cells (AP r))))->FN prog 136 [.ref B0 0] s Q:=by
 rw[<-bj hB0]
 refine FR 88 [] 0xb237ce6db816119d474b17e3befc48b688be35902f4aae51b4f0854566526282a48f33c74b9d86890345a6cfa83cd842c17b9462ec75f09d7e646503a56a57edd57f796e02450361b7a9577d61c1e46dea132f495a60188ff3752c98cf0108c76a08ad39888b590a7c79186618538b7ff69c3824385f8a23c190b0497a543b81291fa9a9880439e6204c9337ac214e9fa871a028c13c3fa76427fd447190d62383dba18fbf1288cd5b033eeecd2cbc7e34b2a0e0d948aa02fe3485e490f9e81b5707672733165c4ae59b23a0ff286a8f0691326d16748befa2735028c9a038defe67c4e8fb1757abe125013a1ac09e0248cf05f94f577906e6aee5a10 aZ.eq_1 ?_
 repeat'(first
  |(with_reducible first|exact dQ|refine cI ?_ ?_|refine er ?_|refine aQ (fun _(h:de o1.az=some _)=>mq (B0:=B0) (preB0:=[]) (postB0:=[.int .i64 o1.e_]) (by simp -implicitDefEqProofs only[go_sem,seval]<;>simp only[an]) (by first|rfl|simp) h) (fun r2=>?_)|refine fun hh=>c8 (B0:=B0) (by simp -implicitDefEqProofs only[go_sem,seval]<;>simp only[an]) (aK (show ok (aw o1 r2) _ from hh) fun r3=>?_)|refine fun hh=>c8 (B0:=B0) (by simp -implicitDefEqProofs only[go_sem,seval]<;>simp only[an]) (aK (show ok (aw o1 18) _ from hh) fun r4=>?_))
  |((with_reducible refine eJ (fun(o1:af)=>⟨[(0,.ref B0 0)],[],(s.set B0 (.cells (AP o1)))⟩) (fun J=>?_) ?_);rotate_left;rintro o1)
  |simp -implicitDefEqProofs only[go_sem,seval])
def aI(r_0:af)(n_1:Int):Option ((List UInt8)×af):=
 if r_0.e_ !=0 then
  some (([]:List UInt8),r_0)
 else
  if decide (n_1>aC ((r_0.az.b_.length:Int) -r_0.az.at_))then
   bn (de r_0.az) fun r1=>
   bn (aw r_0 r1) fun r2=>
   some (([]:List UInt8),r2)
  else
   bt (0<=aC ((aC (r_0.az.at_+n_1)) -n_1)/\aC ((aC (r_0.az.at_+n_1)) -n_1)<=aC (r_0.az.at_+n_1)/\aC (r_0.az.at_+n_1)<=r_0.az.b_.length)<|
   some (part r_0.az.b_ (aC ((aC (r_0.az.at_+n_1)) -n_1)) (aC (r_0.az.at_+n_1)),(af.mk (b9.mk r_0.az.b_ (aC (r_0.az.at_+n_1)) r_0.az.aS) r_0.e_))
theorem ri{r_0 n_1}{B0:Nat}{s:ae}{Q:List AV->ae->Prop}(hB0:s B0=some (.cells (AP r_0))):ok (aI r_0 n_1) (fun r=>Q [sF 1 r.1] (s.set B0 (.cells (AP r.2))))->FN prog 137 [.ref B0 0,.int .i64 n_1] s Q:=by
 rw[<-bj hB0]
 refine FR 60 [⟨4,false,none⟩] 0x374f7278c413895bc4a23b9bebda7f8a850e10f6adccf59aa459cf74382655719638094e58ba7ca57855575b5745c898bd45149f2a214f25c1d5415404b2d66973e25f41079176201b22d6ce9ec98b6b19f9ce49773672067ab4b50cb27329b6ca7bab575f595fba5b41b719340971ab0b3f91f06a91754a9f01bf580752af6fb40733a0547e65e73016fa9586d31a287188b72847bf6086a3e7867815cb2730d0f2e3fa aI.eq_1 ?_
 repeat'(first
  |(with_reducible first|exact dQ|refine cI ?_ ?_|refine er ?_|refine aQ (fun _(h:de r_0.az=some _)=>mq (B0:=B0) (preB0:=[]) (postB0:=[.int .i64 r_0.e_]) (by simp -implicitDefEqProofs only[go_sem,seval]<;>simp only[an]) (by first|rfl|simp) h) (fun r1=>?_)|refine fun hh=>c8 (B0:=B0) (by simp -implicitDefEqProofs only[go_sem,seval]<;>simp only[an]) (aK (show ok (aw r_0 r1) _ from hh) fun r2=>?_))
  |simp -implicitDefEqProofs only[go_sem,seval])
def kM(v_0:ab):Option (Bool×Bool):=
 bn (jt v_0 (bk.mk [70,105,108,116,101,114])) fun r1=>
 jn (
  if(r1.1.Kind==6)&&((r1.1.L.length:Int)==1)then
   bt (0<=(0:Int)/\(0:Int)<r1.1.L.length)<|
   some (ix r1.1.L 0)
  else
   some r1.1) fun(f2:ab)=>
 some (r1.2,(!r1.2)||((f2.Kind==5)&&(f2.S.b==(bk.mk [70,108,97,116,101,68,101,99,111,100,101]).b)))
theorem zB{v_0}:FF 134 [oV v_0] (kM v_0) fun r=>[.bool r.1,.bool r.2]:=by
 intro s Q
 refine FR 37 [⟨2,true,none⟩,⟨3,true,none⟩] 0x4f813041a3f6d619598e4aa5799a241db6cd23ec557bde6277c9d1e04c6d41e9bf5a41e20e6636f24a9ade2700de94e67ca2571829388099e91bd2032b90ab53533c0ee169ffbdbdcf0f8ac7f5dd08b49a4b8706733a35491f893e5d274c2dea2d7649281169bc84865daf54f4b8a423e2a16708b32b25b15210e4c7222ba6aa0cab050c43fd0b07efe2e5acf3c982c6ea8ec36830399ac kM.eq_1 ?_
 repeat'(first
  |with_reducible refine aQ (fun _(h:jt v_0 (bk.mk [70,105,108,116,101,114])=some _)=>(kc qM h:)) (fun r1=>?_)
  |((with_reducible refine eJ (fun(f2:ab)=>⟨[(4,.loc (Kf f2)),(5,.bool r1.2)],[],s⟩) (fun J=>?_) ?_);rotate_left;rintro f2)
  |simp -implicitDefEqProofs only[go_sem,seval])
def bg(r_0:af)(v_1:ab):Option (aL×af):=
 bn (jt v_1 (bk.mk [76,101,110,103,116,104])) fun r1=>
 bn (kM v_1) fun r2=>
 jn (
  bn (jv (!((((v_1.Kind !=7)||(r1.1.Kind !=2))||(decide (r1.1.N<0)))||(decide (r1.1.N>16777216)))) false (ll v_1 (bk.mk [68,101,99,111,100,101,80,97,114,109,115]))) fun r8=>
  if(((((v_1.Kind !=7)||(r1.1.Kind !=2))||(decide (r1.1.N<0)))||(decide (r1.1.N>16777216)))||r8)||(!r2.2)then
   bn (aw r_0 18) fun r9=>
   some r9
  else
   some r_0) fun(o7:af)=>
 bn (aZ o7) fun r10=>
 bn (aI r10 r1.1.N) fun r11=>
 bn (ax r11.2 (bk.mk [101,110,100,115,116,114,101,97,109])) fun r12=>
 bn (ax r12 (bk.mk [101,110,100,111,98,106])) fun r13=>
 jn (
  if r2.1&&(r13.e_==0)then
   bn (gm r11.1 16777216) fun r18=>
   jn (
    if r18.2.2 !=0 then
     bn (aw r13 18) fun r23=>
     some r23
    else
     some r13) fun(o22:af)=>
   some (r18.1,o22)
  else
   some (r11.1,r13)) fun((A1,o17):(List UInt8)×af)=>
 bn (gz v_1 (bk.mk [76,101,110,103,116,104])) fun r24=>
 bn (gz r24 (bk.mk [70,105,108,116,101,114])) fun r25=>
 bn (mH r25 (bk.mk A1)) fun r26=>
 some (r26,o17)
theorem qo{r_0 v_1}{B0:Nat}{s:ae}{Q:List AV->ae->Prop}(hB0:s B0=some (.cells (AP r_0))):ok (bg r_0 v_1) (fun r=>Q [.agg (cX5 r.1)] (s.set B0 (.cells (AP r.2))))->FN prog 105 [.ref B0 0,oV v_1] s Q:=by
 rw[<-bj hB0]
 refine FR 86 [⟨4,false,some (6,true)⟩] 0x3ae4ba1de54584227b40913ed5ce3a0bc01d8b81908efec2deab0dd8eb15b95e7946e5e296a7df37e6da76a1688a85ee1d50a3ffd9bba6c7b7859c752f08024aead127356bd1f37950f35f207673217a282e7b759b9f51bfb75fee3304b7afa427a188ef804b9a8afbe5e86dc71fb3b82a3f9dd14b7a586934e61bd18a289e125a1161fed7b1437a5e977f75bfbae00942d3884816e9db33cd7aa274994ed8557d2572ace89f9a721c495a0f7fd9945bb1db2d6f8438dccf0e41089859d4f0db02ab2fe489c9ab59b77d80911c689a3813a2de20ecde8639cd3659fd659779ba6afcd5dcced415aaef984770d7b8d25095675049543b1629be8ce2679d3e3be14703f988aea42dff3be45e3662221db312be25a1e5798402d2c697c1534e197e42dec487e1b799d035f5256781c019b65aef9b96ff7ad63985e235b27c95ef6b90b88021865a9965fb3c86f950bef4526b1e3c3987971816d879c058e4da75554333afe25bff273683dcd0f5908236fe47338b7ae0d3d013724c399feb bg.eq_1 ?_
 repeat'(first
  |(with_reducible first|exact dQ|refine cI ?_ ?_|refine er ?_|refine aQ (fun _(h:jt v_1 (bk.mk [76,101,110,103,116,104])=some _)=>(kc qM h:)) (fun r1=>?_)|refine aQ (fun _(h:kM v_1=some _)=>(kc zB h:)) (fun r2=>?_)|refine jk rfl (fun _(h:ll v_1 (bk.mk [68,101,99,111,100,101,80,97,114,109,115])=some _)=>(kc F8 h:)) (fun _=>rfl) (fun r8=>?_)|refine fun hh=>c8 (B0:=B0) (by simp -implicitDefEqProofs only[go_sem,seval]<;>simp only[an]) (aK (show ok (aw r_0 18) _ from hh) fun r9=>?_)|refine fun hh=>rN (B0:=B0) (by simp -implicitDefEqProofs only[go_sem,seval]<;>simp only[an]) (aK (show ok (aZ o7) _ from hh) fun r10=>?_)|refine fun hh=>ri (B0:=B0) (by simp -implicitDefEqProofs only[go_sem,seval]<;>simp only[an]) (aK (show ok (aI r10 r1.1.N) _ from hh) fun r11=>?_)|refine fun hh=>iZ (B0:=B0) (by simp -implicitDefEqProofs only[go_sem,seval]<;>simp only[an]) (aK (show ok (ax r11.2 (bk.mk [101,110,100,115,116,114,101,97,109])) _ from hh) fun r12=>?_)|refine fun hh=>iZ (B0:=B0) (by simp -implicitDefEqProofs only[go_sem,seval]<;>simp only[an]) (aK (show ok (ax r12 (bk.mk [101,110,100,111,98,106])) _ from hh) fun r13=>?_)|refine aQ (fun _(h:gm r11.1 16777216=some _)=>Cz h) (fun r18=>?_)|refine fun hh=>c8 (B0:=B0) (by simp -implicitDefEqProofs only[go_sem,seval]<;>simp only[an]) (aK (show ok (aw r13 18) _ from hh) fun r23=>?_)|refine cY (fun _(h:gz v_1 (bk.mk [76,101,110,103,116,104])=some _)=>uI h) (fun _=>rfl) (fun r24=>?_)|refine cY (fun _(h:gz r24 (bk.mk [70,105,108,116,101,114])=some _)=>uI h) (fun _=>rfl) (fun r25=>?_)|refine cY (fun _(h:mH r25 (bk.mk A1)=some _)=>(kc zA h:)) (fun _=>rfl) (fun r26=>?_))
  |((with_reducible refine eJ (live:=[(0,false),(3,false),(4,false),(5,false),(7,false)]) (fun(o7:af)=>⟨[(0,.ref B0 0),(3,.loc (Kf v_1)),(4,.loc [.int .i64 0,.int .i64 0,.str (bk.mk []).b,.sl true 4 0 [],.bool false,.str (bk.mk []).b]),(5,.loc (Kf r1.1)),(7,.bool r2.1)],[],(s.set B0 (.cells (AP o7)))⟩) (fun J=>?_) ?_);rotate_left;rintro o7)
  |((with_reducible refine eJ (live:=[(3,false),(4,false),(10,true)]) (fun(o22:af)=>⟨[(3,.loc (Kf v_1)),(4,.loc [.int .i64 0,.int .i64 0,.str (bk.mk []).b,.sl true 4 0 [],.bool false,.str (bk.mk []).b]),(10,sF 1 r18.1)],[],(s.set B0 (.cells (AP o22)))⟩) (fun J=>?_) ?_);rotate_left;rintro o22)
  |((with_reducible refine eJ (live:=[(3,false),(4,false),(9,true)]) (fun((A1,o17):(List UInt8)×af)=>⟨[(3,.loc (Kf v_1)),(4,.loc [.int .i64 0,.int .i64 0,.str (bk.mk []).b,.sl true 4 0 [],.bool false,.str (bk.mk []).b]),(9,sF 1 A1)],[],(s.set B0 (.cells (AP o17)))⟩) (fun J=>?_) ?_);rotate_left;rintro⟨A1,o17⟩)
  |simp -implicitDefEqProofs only[go_sem,seval])
def cW(b_0:(List UInt8))(ff:Int)(cG:Bool):Option (Int×aL×Int×Int):=
 bn (bU (af.mk (b9.mk b_0 ff cG) 0) 1 4096) fun r1=>
 bn (bU r1.2 0 0) fun r2=>
 bn (ax r2.2 (bk.mk [111,98,106])) fun r3=>
 bn (bw r3) fun r4=>
 bn (mG r4.1) fun r5=>
 jn (
  bn (aO r4.2) fun r10=>
  if r10.1 then
   bn (bg r10.2 r5.V) fun r11=>
   some (r11.1,r11.2)
  else
   some (r5,r10.2)) fun((o8,o9):aL×af)=>
 if o9.e_ !=0 then
  some (0,(aL.mk (ab.mk 0 0 (bk.mk []) ([]:List ab)) false (bk.mk [])),0,o9.e_)
 else
  some (r1.1,o8,o9.az.at_,0)
theorem A6{b_0 ff cG}:FF 72 [sF 1 b_0,.int .i64 ff,.bool cG] (cW b_0 ff cG) fun r=>[.int .i64 r.1,.agg (cX5 r.2.1),.int .i64 r.2.2.1,.int .i64 r.2.2.2]:=by
 intro s Q
 intro h
 refine FN.forget ?_
 refine FP 51 [⟨6,true,none⟩,⟨7,false,some (6,true)⟩,⟨8,true,none⟩,⟨9,true,none⟩] (dec 0x13696e8817f01dd43421df8758bae7a77b759a7bb860dadaf2fc30ce93b4da3d7608dab0982033dcd470ee8db98caf893582ef71bdc5680cdcdf4e0f8d23fbe4a545eea50da578c07bb86a5d5b9aab1a344cb26db89a837863c30b05289c39bd7a6bb0a21e69b09ec4a50993e36299c7025380f147cffd8e5547e65fd3b0ff436bcd54796778a4238223db88e2a471f466e23b9b05bbec215d16f45278a823d128b9f982f3763fa5ca3d3176bace7b42ad476e8cea42a299f34d0ec46dcec310010649c0f08774a3602bd03aeb21f239dc71aeba9bfb31c75d917840222c02e7c5bd7069e809b6f400c1ad) (by kernel_rfl) rfl ?_
 revert h
 rw[cW]
 conv in dec _=>reduce
 repeat'(first
  |(with_reducible first|exact dQ|refine cI ?_ ?_|refine er ?_|refine fun hh=>kN (B0:=N1) (by simp -implicitDefEqProofs only[go_sem,seval]<;>simp only[an]) (aK (show ok (bU (af.mk (b9.mk b_0 ff cG) 0) 1 4096) _ from hh) fun r1=>?_)|refine fun hh=>kN (B0:=N1) (by simp -implicitDefEqProofs only[go_sem,seval]<;>simp only[an]) (aK (show ok (bU r1.2 0 0) _ from hh) fun r2=>?_)|refine fun hh=>iZ (B0:=N1) (by simp -implicitDefEqProofs only[go_sem,seval]<;>simp only[an]) (aK (show ok (ax r2.2 (bk.mk [111,98,106])) _ from hh) fun r3=>?_)|refine fun hh=>rj (B0:=N1) (by simp -implicitDefEqProofs only[go_sem,seval]<;>simp only[an]) (aK (show ok (bw r3) _ from hh) fun r4=>?_)|refine aQ (fun _(h:mG r4.1=some _)=>(kc zz h:)) (fun r5=>?_)|refine fun hh=>py (B0:=N1) (by simp -implicitDefEqProofs only[go_sem,seval]<;>simp only[an]) (aK (show ok (aO r4.2) _ from hh) fun r10=>?_)|refine fun hh=>qo (B0:=N1) (by simp -implicitDefEqProofs only[go_sem,seval]<;>simp only[an]) (aK (show ok (bg r10.2 r5.V) _ from hh) fun r11=>?_))
  |((with_reducible refine eJ (fun((o8,o9):aL×af)=>⟨[(7,.loc [.int .i64 0,.int .i64 0,.str (bk.mk []).b,.sl true 4 0 [],.bool false,.str (bk.mk []).b]),(10,.ref N1 0),(11,.int .i64 r1.1),(12,.loc (cX5 o8))],[],(s.set N1 (.cells (AP o9)))⟩) (fun J=>?_) ?_);rotate_left;rintro⟨o8,o9⟩)
  |((fail_if_success (have _x:=sN1));with_reducible intro hh N1 hN1;(try simp only[eT]at hN1);have sN1:=hN1;revert hh)
  |with_reducible exact fun hh=>⟨_,uO.set (uO.refl _) (by simp[ae.set,sN1]),hh⟩
  |simp -implicitDefEqProofs only[go_sem,seval])
theorem A5{b_0 ff cG}{s:ae}{r:Int×aL×Int×Int}(h:cW b_0 ff cG=some r):FE prog 72 [sF 1 b_0,.int .i64 ff,.bool cG] s [.int .i64 r.1,.agg (cX5 r.2.1),.int .i64 r.2.2.1,.int .i64 r.2.2.2] s:=A6 ⟨r,h,rfl,rfl⟩
end Go.AB
end
section
set_option maxRecDepth 16000
namespace Go.AB
open Go
open Go.Proofs.Tryz (prog)
structure aj where
 aR:Int
 To:Int
 deriving DecidableEq
instance:aP aj:=⟨2,fun x=>[.int .i64 x.aR,.int .i64 x.To],(aj.mk 0 0),by decide,fun _=>rfl,fun _=>rfl⟩
@[go_sem]theorem ni(x:aj):aP.cells x=[.int .i64 x.aR,.int .i64 x.To]:=rfl
@[go_sem]theorem Ve(l:List aj)(i:Int):pad [.int .i64 0,.int .i64 0] (views (AB.sub (flat l) (i.toNat*2) 2))=[.int .i64 ((ix l i).aR),.int .i64 ((ix l i).To)]:=by rw[<-ni];exact rM _ 2 l i (by rw[ni];rfl) rfl
def iB(x_0:aj):Option (Bool):=some ((decide (x_0.aR<0))||(decide (x_0.To<=x_0.aR)))
theorem DJ{x_0}:FF 97 [.agg [.int .i64 x_0.aR,.int .i64 x_0.To]] (iB x_0) fun r=>[.bool r]:=by
 intro s Q
 exact FC 13 [⟨2,true,none⟩] 0x2269e60faaff15fd257fb4be20b5a1921aec806cf3537bdbeacb2d28c58c9e368210995b iB.eq_1
theorem oR{x_0}{s:ae}{r:Bool}(h:iB x_0=some r):FE prog 97 [.agg [.int .i64 x_0.aR,.int .i64 x_0.To]] s [.bool r] s:=DJ ⟨r,h,rfl,rfl⟩
def bu(s_0:(List aj)):Option (Int):=
 Dt (
  rA (
   iter (fun(t2:Int)=>
    if decide (t2<(s_0.length:Int))then
     bt (0<=t2/\t2<s_0.length)<|
     bn (iB (ix s_0 t2)) fun r4=>
     if r4 then
      some (.inr (.inr t2))
     else
      some (.inl (aC (t2+1)))
    else
     some (.inr (.inl ()))) 0) (fun(_:Unit)=>
   some (.inl ()))
  (fun(t3:Int)=>some (.inr t3))) (fun(_:Unit)=>
  some (-1))
 (fun(t1:Int)=>some t1)
theorem ME:(tJ prog 97=true)=True:=eq_true (by kernel_rfl)
theorem fe{s_0}:FF 163 [.sl false 2 s_0.length (flat s_0),.fn 97 [] []] (bu s_0) fun r=>[.int .i64 r]:=by
 intro s Q
 refine FR 19 [⟨4,true,none⟩] 0x13ec7e6dde7cb2744e4e75812ff510dff68579477261a0815c8aa6b84772511877a72129c2e872b5d7454de06523fc026cd742537ed47394f62da005fe8417361861ef71dae3753d1338c54757d13980083fa bu.eq_1 ?_
 repeat'(first
  |(with_reducible first|exact dQ|refine cI ?_ ?_|refine er ?_|refine aQ (fun _(h:iB (ix s_0 t2)=some _)=>oR h) (fun r4=>?_))
  |((with_reducible refine ed (fun(t2:Int)=>⟨[(0,.sl false 2 s_0.length (flat s_0)),(1,.fn 97 [] []),(7,.int .i64 (s_0.length:Int)),(8,.int .i64 t2)],[],s⟩) ?_ ?_);(first|exact rfl|simp -implicitDefEqProofs only[go_sem,seval,ME]);rintro J t2)
  |((with_reducible refine fF (fun(_:Unit)=>⟨[],[],s⟩) (fun J=>?_) ?_);rotate_left;rintro _)
  |simp -implicitDefEqProofs only[go_sem,seval,ME])
def ph(nN:(List Int)):Option (Int):=
 Dt (
  rA (
   iter (fun(t3:Int)=>
    if decide (t3<(nN.length:Int))then
     bt (0<=t3/\t3<nN.length)<|
     if(ix nN t3)!=0 then
      some (.inr (.inr (ix nN t3)))
     else
      some (.inl (aC (t3+1)))
    else
     some (.inr (.inl ()))) 0) (fun(_:Unit)=>
   some (.inl ()))
  (fun(t5:Int)=>some (.inr t5))) (fun(_:Unit)=>
  some 0)
 (fun(t2:Int)=>some t2)
theorem Fy{nN}:FF 147 [.sl false 1 nN.length (flat nN)] (ph nN) fun r=>[.int .i64 r]:=by
 intro s Q
 refine FR 18 [⟨2,true,none⟩] 0x3386be2e4554fbbd4da5b368412dc3e0b0063551da1cd55249d3f20d9dc2cd0ec20abaa8c34be922e8fb43a45e2dadab78a0c809668bdfdb6640be7a037170c1e4aa0033e87c80a78a5cb0b1c852148e7bcc00473a ph.eq_1 ?_
 repeat'(first
  |((with_reducible refine ed (fun(t3:Int)=>⟨[(3,.int .i64 0),(6,.sl false 1 nN.length (flat nN)),(7,.int .i64 (nN.length:Int)),(8,.int .i64 t3)],[],s⟩) ?_ ?_);(first|exact rfl|simp -implicitDefEqProofs only[go_sem,seval]);rintro J t3)
  |((with_reducible refine fF (fun(_:Unit)=>⟨[(3,.int .i64 0)],[],s⟩) (fun J=>?_) ?_);rotate_left;rintro _)
  |simp -implicitDefEqProofs only[go_sem,seval])
def oB(a_0:aj)(b_1:aj):Option (Int):=
 bn (c7 a_0.aR b_1.aR) fun r1=>
 bn (c7 a_0.To b_1.To) fun r2=>
 bn (ph [r1,r2]) fun r3=>
 some r3
theorem Cd{a_0 b_1}:FF 130 [.agg [.int .i64 a_0.aR,.int .i64 a_0.To],.agg [.int .i64 b_1.aR,.int .i64 b_1.To]] (oB a_0 b_1) fun r=>[.int .i64 r]:=by
 intro s Q
 refine FR 17 [⟨4,true,none⟩] 0x42defd69891e3fbca7a88d7eaea8963b522bd272588ea38deca005f4671ca6bd0b98f3be796fc4e83d7600ce7ce5910981dc oB.eq_1 ?_
 repeat'(first
  |(with_reducible first|refine cY (fun _(h:c7 a_0.aR b_1.aR=some _)=>kG h) (fun _=>rfl) (fun r1=>?_)|refine cY (fun _(h:c7 a_0.To b_1.To=some _)=>kG h) (fun _=>rfl) (fun r2=>?_)|refine cY (fun _(h:ph [r1,r2]=some _)=>(by refine Fc ?_ ((kc Fy h:));simp -implicitDefEqProofs only[go_sem,seval])) (fun _=>rfl) (fun r3=>?_))
  |simp -implicitDefEqProofs only[go_sem,seval])
theorem Cc{a_0 b_1}{s:ae}{r:Int}(h:oB a_0 b_1=some r):FE prog 130 [.agg [.int .i64 a_0.aR,.int .i64 a_0.To],.agg [.int .i64 b_1.aR,.int .i64 b_1.To]] s [.int .i64 r] s:=Cd ⟨r,h,rfl,rfl⟩
def za:IC:=dec 0x149998c2ffeb70b596d9eba1b00ab26e4711973056c7cd23b460c898342c022b5b4473a
theorem IL:eH prog 106 8 [⟨2,true,none⟩] za=true:=by kernel_rfl
def xT(l:List aj)(s:ae)(rs:List AV)(s':ae):Prop:=(∃b cap sp,rs=[.arr b 0 l.length cap]/\s b=none/\0<cap/\l.length<=cap/\(flat l++sp).length=cap*2/\views (flat l++sp)=flat l++sp/\s'=s.set b (.cells (flat l++sp)))\/(l=[]/\s'=s/\∃b,rs=[.arr b 0 0 0])
theorem wq{o:Bool}{l:List aj}{s:ae}(hr:l.length*16<=room):FN prog 106 [.sl o 2 l.length (flat l)] s (xT l s):=by
 refine FN.ji (FO IL rfl rfl ?_)
 generalize hQ:(fun rs s'=>∃s2,Sub s2 s'/\xT l s rs s2)=Q
 have hq:∀rs s' s2,Sub s2 s'->xT l s rs s2->Q rs s':=fun rs s' s2 h1 h2=>by rw[<-hQ];exact⟨s2,h1,h2⟩
 rw[za]
 conv in dec _=>reduce
 simp -implicitDefEqProofs only[go_sem,seval]
 intro v hv
 refine⟨fun h=>hq _ _ s (Sub.refl s) (.inr ⟨List.eq_nil_of_length_eq_zero (hv (by simpa using h)),rfl,0,rfl⟩),fun _ b1 hb1=>?_⟩
 rw[js,aN]
 by_cases hl:l=[]
 ·subst hl
  refine lI rfl rfl (Nat.le_refl 0) ?_
  simp -implicitDefEqProofs only[go_sem,seval]
  exact hq _ _ s ((Sub.refl s).set hb1) (.inr ⟨rfl,rfl,_,rfl⟩)
 ·have hn:0<l.length:=List.length_pos_iff.2 hl
  refine eD rfl rfl (by omega) (by rw[Nat.zero_add];exact hr) fun b2 cap hb2 fh=>?_
  rw[Nat.zero_add]at fh
  have hz:(List.replicate (cap -(0+l.length)) [.int .i64 0,.int .i64 0]).flatten=flat (List.replicate (cap -l.length) (aj.mk 0 0:aj)):=by rw[fX,Nat.zero_add];rfl
  rw[hz]
  simp -implicitDefEqProofs only[go_sem,seval,Nat.zero_add,List.nil_append]
  have KH:s b2=none:=((Sub.refl s).set hb1).none hb2
  refine hq _ _ _ (Sub.DG ((Sub.refl s).set hb1)) (.inl ⟨b2,cap,_,rfl,KH,by omega,fh,?_,?_,rfl⟩)
  ·rw[List.length_append,aA,aA,List.length_replicate]
   show l.length*2+(cap -l.length)*2=cap*2
   omega
  ·rw[k7,aN,aN]
theorem HQ{o:Bool}{l:List aj}{s:ae}(hr:l.length*16<=room):FE prog 106 [.sl o 2 l.length (flat l)] s [.us 2 l.length (flat l)] s:=
 FN.Sx (aA l) ⟨rfl,rfl⟩ ((wq hr).mono fun rs s' h=>by
  rcases h with⟨b,cap,sp,h1,h2,h3,h4,h5,h6,h7⟩|⟨h1,h2,h3⟩
  ·exact .inl ⟨b,cap,sp,h1,by rw[h7];exact bD,h3,h4,h5,h6,by rw[h7,mE h2];exact Sub.refl s⟩
  ·subst h1;exact .inr ⟨rfl,rfl,by rw[h2];exact Sub.refl s,h3⟩)
def yf:IC:=dec 0xff7229943ac5b2dd19e8d83f1049ce508234037f6a1738625d5d645fc1a2e8f35068d95eefc1d7b7a3ffaac540a57eae373e1436081b195bb087971c1f77cde58e44ef3bdcafa0a7aa3401ad24652bb85e698b0b02f3170ae1d15ff86fafeffc2d4136afa436a75a3f0b5efb6e63ba27e77daf2bb7bda21a1619d0a3456df62e3f5e892581effce2fc7603aa3f48f6ad53543e3a5b06a99b2bce60af7305f19d43cfb9dafba30619727483fa
theorem En:eH prog 128 42 [⟨4,true,none⟩] yf=true:=by kernel_rfl
end Go.AB
end
