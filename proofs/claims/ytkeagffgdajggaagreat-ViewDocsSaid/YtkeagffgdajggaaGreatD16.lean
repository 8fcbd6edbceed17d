/- A part of the proof. -/
import Derived.Test.YtkeagffgdajggaaGreatD13
import Derived.Test.YtkeagffgdajggaaGreatD14
import Derived.Test.YtkeagffgdajggaaGreatD15
import Derived.Test.YtkeagffgdajggaaGreatD12
import Derived.Test.YtkeagffgdajggaaGreatD11
set_option linter.unusedSimpArgs false
set_option linter.unusedVariables false
section
set_option maxRecDepth 4000
namespace Go.AB
open Go
open Go.Proofs.Tryz (prog)
attribute[-go_sem] Nat.add_zero mV bS cu dj bO ct
def PK:IC:=
 (ae [i1 2 (.oU 1 (.t 0)),i1 3 (.oU 1 (.t 1)),cZ 4 (.ph)] [2,3]
 (.seq (ae [ld 5 1 3,bn 6 .lss 5 1] [2,3,6]
 (.cond (.t 6) .dead
 .skip))
 (ae [i1 8 (.kL 262 [] [(.t 2),(.t 3)]),mv 4 8] [4]
 .ret)))
theorem Xb:aE prog 222 9 [⟨4,true,none⟩] PK=true:=by kernel_rfl
def GL:IC:=
 (.bJ none [cZ 2 (.arr 0 0 0 0),mi 3 0] [0])
def GM:IC:=(.bJ none [i1 4 (.gR [.arr 0 0 0 0])] [0,4])
def GN:IC:=
 (.bJ none [mv 7 0,i1 8 (.call 222 [(.t 7),(.c (.int .i64 2))])] [4,8])
def zC:IC:=
 (ae [ld 14 1 4,i1 15 (.call 223 [(.t 14),(.c (.fn 224 [] []))])] [4]
 (.seq (ae [mi 6 1] [4,6]
 (.block 2 (.loop [(4,false),(6,false)] (.seq (ae [mv 16 6,ld 17 1 4,le 18 0 17,bt 19 .lss 16 18] [4,6,19]
 (.cond (.t 19) .skip
 (.exit 2)))
 (.seq (.block 3 (.seq (.bJ (some 16) [ld 22 1 4,mv 23 6,ia 24 [.sl false 4 0 []] 22 23,ld 25 1 24,i1 26 (.indexAddr pr (.t 25) (.c (.int .i64 0))),fa 27 2 26,ld 28 1 27,ld 29 1 4,mv 30 6,bn 31 .sub 30 1,ia 32 [.sl false 4 0 []] 29 31,ld 33 1 32,i1 34 (.indexAddr pr (.t 33) (.c (.int .i64 0))),fa 35 2 34,ld 36 1 35,bt 37 .eql 28 36] [4,6,37])
 (.cond (.t 37) (ae [cZ 2 (.sl true 4 0 []),mi 3 16] [2,3]
 .ret)
 .skip)))
 (.bJ none [mv 20 6,bn 21 .add 20 1,mv 6 21] [4,6]))))))
 (ae [ld 38 1 4,c1 39 226 38,i1 2 (.UB 4 true (.t 39)),mi 3 0] [2,3]
 .ret)))
def zD:IC:=
 (.block 1 (.bJ none [ld 10 1 4,mv 11 5,i1 12 (.aN 1 1 [.sl false 4 0 []] [(0,1,(.t 11))]),i1 13 (.fk 1 24 [.sl false 4 0 []] (.t 10) (.t 12)),st 1 4 13] []))
def pC:List pG:=[⟨2,false,none⟩,⟨3,true,none⟩]
abbrev E7(l:List aa):AV:=.sl false 4 l.length (flat l)
theorem V6{s:ab}{l:List aa}{Q:List AV->ab->Prop}(hq:∀Bs,s Bs=none->∀Bn,(s.set Bs (.cells [E7 l])) Bn=none->Q [.fn 262 [] [.ref Bs 0,.ref Bn 0]] ((s.set Bs (.cells [E7 l])).set Bn (.cells [.int .i64 2]))):FN prog 222 [E7 l,.int .i64 2] s Q:=by
 refine FO Xb rfl rfl ?_
 rw[PK]
 have h0:decide ((2:Int)<1)=false:=rfl
 simp -implicitDefEqProofs only[go_sem,seval]
 intro Bs h1 Bn h2
 simp -implicitDefEqProofs only[go_sem,seval,h0,Bool.true_eq_false,Bool.false_eq_true,false_implies,true_implies,true_and,and_true]
 exact hq Bs h1 Bn h2
def cA:Code->Code
 |.seq a _=>a
 |c=>c
def cB:Code->Code
 |.seq _ b=>b
 |c=>c
def rfA:Code->Code
 |.rangeFunc _ _ a _=>a
 |c=>c
def rfB:Code->Code
 |.rangeFunc _ _ _ b=>b
 |c=>c
def cIn:Code->Code
 |.block _ c=>c
 |c=>c
def ad6:Code->Array Oper
 |.region _ ops _=>ops
 |_=> #[]
def WZ:IC->List ai
 |.block _ (.bJ _ l _)=>l
 |_=>[]
noncomputable def HP:Code:=(Go.Proofs.Tryz.f182.body).getD .skip
noncomputable def pC1:Code:=cA HP
noncomputable def pC2:Code:=cA (cB HP)
noncomputable def pC3:Code:=cA (cA (cB (cB HP)))
noncomputable def pRf:Code:=cIn (cB (cA (cB (cB HP))))
noncomputable def pC4:Code:=cB (cB (cB HP))
noncomputable def Z0:Array Oper:=ad6 (cIn (rfB pRf))
theorem Ss:Go.Proofs.Tryz.f182.body=some (.seq pC1 (.seq pC2 (.seq (.seq pC3 (.block 0 (.rangeFunc (.tmp 8) #[9] (rfA pRf) (rfB pRf)))) pC4))):=by kernel_rfl
theorem ach:rfB pRf=.block 1 (.region 4 Z0 false):=by kernel_rfl
theorem af3:rfA pRf=.region 3 #[{dst:=some 5,op:=.assign (.tmp 9),type:=30,pos:= "parse.go:116",after:= #[],guard:=none}] false:=by kernel_rfl
theorem Su:mG prog 40 pC1 GL=true:=by kernel_rfl
theorem Sv:mG prog 40 pC2 GM=true:=by kernel_rfl
theorem Sw:mG prog 40 pC3 GN=true:=by kernel_rfl
theorem Sx:mG prog 40 pC4 zC=true:=by kernel_rfl
theorem Sy:cd prog 40 Z0 Z0.toList (WZ zD)=true:=by kernel_rfl
theorem Qu:Z0.toList.all BE=true:=by kernel_rfl
theorem U1:ke prog Go.Proofs.Tryz.f182.results.toList pC=true:=by kernel_rfl
theorem XI:Go.Proofs.Tryz.f182.ntmps=40:=by kernel_rfl
def jZ(l:List aa)(k:Nat):List aa:=(l.drop (2*k)).take 2
def iC(l:List aa)(k:Nat):List VL:=(List.range k).map (jZ l)
theorem Az(l:List aa)(k:Nat):iC l (k+1)=iC l k++[jZ l k]:=by unfold iC;rw[List.range_succ,List.map_append];rfl
theorem DF(l:List aa)(k:Nat):(iC l k).length=k:=by simp[iC]
theorem zk(l:List aa)(k:Nat)(h:2*k+2<=l.length):(jZ l k).length=2:=by unfold jZ;rw[List.length_take,List.length_drop];omega
theorem V7{w:World}{R:Nat->Nat}{l:List aa}{b off k:Nat}(hR:off+(flat l).length<=R b)(ha:At w R b off (flat l))(hk:2*k+2<=l.length):VR w R (E7 (jZ l k)) (fy b off k):=by
 obtain⟨u,h1,h2,h3⟩:=ha
 have hs:=lU l 4 (2*k) 2 rfl
 have hl:(flat (jZ l k)).length=2*4:=by rw[ao,zk l k hk];rfl
 have hfl:(flat l).length=l.length*4:=ao l
 have hg:∀(j:Nat)(c:AV),(flat (jZ l k))[j]? =some c->(flat l)[2*k*4+j]? =some c:=fun j c hj=>by
  unfold jZ at hj
  rw[<-hs,FC]at hj
  split at hj
  ·exact hj
  ·cases hj
 unfold E7 fy
 rw[zk l k hk]
 refine .sl false 4 2 _ b _ 2 (fun j=>u (2*k*4+j)) (fun c hc=>?_) hl (by omega) (Nat.le_refl _) (fun j c hj=>?_) (fun j c hj=>h2 _ c (hg j c hj))
 ·obtain⟨j,hj⟩:=List.mem_iff_getElem?.1 hc
  exact h3 c (List.mem_of_getElem? (hg j c hj))
 ·rw[Nat.add_assoc];exact h1 _ c (hg j c hj)
def nbB(ls:List VL)(i:Int):Option (Int⊕Bool):=
 bif decide (i<ls.length)then aB (1<=i/\i<2^62/\0<(ix ls i).length/\0<(ix ls (i -1)).length)<|
  bif(ix (ix ls i) 0).S.b==(ix (ix ls (i -1)) 0).S.b then some (.inr true)else some (.inl (i+1))
 else some (.inr false)
def CZ(l:List aa):Option (List aa×Int):=
 aB (0<l.length/\l.length<40/\l.length % 2=0)<|aJ (UF (iC l (l.length/2)) 0 ((l.length/2:Nat):Int)) fun two=>
 aB ((two.all fun c=>decide (0<c.length))=true/\two.length=l.length/2/\two.flatten.length<1000)<|aJ (iter (nbB two) 1) fun d=>
 bif d then some ([],16)else some (two.flatten,0)
theorem Yb{s:ab}{r:c8}{ls:List VL}{B:Nat}{o o':SO}(h:gQ s r ls)(hB:s B=some o):(gI s r ls).set B o'=gI (s.set B o') r ls/\gQ (s.set B o') r ls:=by
 cases r with
 |none=>exact⟨rfl,h⟩
 |some x=>
  obtain⟨rb,cap,sp⟩:=x
  obtain⟨h1,h2⟩:=h
  have hne:B≠rb:=fun e=>by subst e;rw[h1]at hB;cases hB
  refine⟨set_comm hne,⟨by rw[aj hne.symm];exact h1,h2⟩⟩
theorem Sz{s s1:ab}{B2 rb cap:Nat}{sp:List AV}{ls:List VL}{own:Bool}{Q:List AV->ab->Prop}(hB:s1 B2=some (.cells [.arr rb 0 ls.length cap]))(hrb:s1 rb=none)(hs:Sub s s1)(hl:ls.length<20)(hl0:0<ls.length)
 (hm:ok (UF ls 0 ls.length) fun two=>(∀c∈two,0<c.length)/\two.length=ls.length/\two.flatten.length<1000/\ok (iter (nbB two) 1) fun d=>(d=true->∀s',Sub s s'->Q [.sl false 4 0 [],.int .i64 16] s')/\(d=false->∀s',Sub s s'->Q [.sl false 4 two.flatten.length (flat two.flatten),.int .i64 0] s')):
 iU prog zC (SK pC Q) ⟨[(4,.ref B2 0)],[],s1.set rb (.cells (flat ls++sp))⟩:=by
 have cO:room=140737488355328:=rfl
 have hne:B2≠rb:=fun e=>by subst e;rw[hrb]at hB;cases hB
 have hB':∀cs,(s1.set rb (.cells cs)) B2=some (.cells [.arr rb 0 ls.length cap]):=fun cs=>by rw[aj hne];exact hB
 rw[zC,pC]
 simp -implicitDefEqProofs only[go_sem,Nat.reduceBEq,Nat.reduceAdd,Nat.reduceMul,Nat.reduceLeDiff,Nat.reduceEqDiff,Nat.reduceBNe,UInt8.reduceToNat,UInt32.reduceToNat,hB']
 refine Vo hrb hl (cT hm fun two⟨oZ,hlen,hfl,hn⟩=>?_)
 rw[<-hlen]
 rw[<-hlen]at hB' hl hl0
 simp -implicitDefEqProofs only[go_sem,Nat.reduceBEq,Nat.reduceAdd,Nat.reduceMul,Nat.reduceLeDiff,Nat.reduceEqDiff,Nat.reduceBNe,UInt8.reduceToNat,UInt32.reduceToNat]
 refine aY (fun(i:Int)=>(⟨[(4,.ref B2 0),(6,.int .i64 i)],[],s1.set rb (.cells (flat two++sp))⟩:St)) rfl ?_ hn
 ·intro J i hb
  unfold nbB at hb
  cases hlt:decide (i<two.length)with
  |false=>
   rw[hlt,cond_false,aF]at hb
   simp -implicitDefEqProofs only[go_sem,Nat.reduceBEq,Nat.reduceAdd,Nat.reduceMul,Nat.reduceLeDiff,Nat.reduceEqDiff,Nat.reduceBNe,UInt8.reduceToNat,UInt32.reduceToNat,hB',hlt,Bool.true_eq_false,Bool.false_eq_true,false_implies,true_implies,true_and,and_true]
   simp only[ns]at hb
   refine Um hrb oZ (by omega) (by omega) fun s' r' hs' hr'=>?_
   simp -implicitDefEqProofs only[go_sem,Nat.reduceBEq,Nat.reduceAdd,Nat.reduceMul,Nat.reduceLeDiff,Nat.reduceEqDiff,Nat.reduceBNe,UInt8.reduceToNat,UInt32.reduceToNat]
   refine AM rfl hr' rfl ?_
   simp -implicitDefEqProofs only[go_sem,Nat.reduceBEq,Nat.reduceAdd,Nat.reduceMul,Nat.reduceLeDiff,Nat.reduceEqDiff,Nat.reduceBNe,UInt8.reduceToNat,UInt32.reduceToNat]
   exact hb.2 trivial s' fun b o h=>hs' b o ((hs.set hrb) b o h)
  |true=>
   rw[hlt,cond_true,dN]at hb
   obtain⟨⟨h1,h2,h3,h4⟩,hb⟩:=hb
   have hi:i<two.length:=by simpa using hlt
   obtain⟨r1,r2⟩:=z8 two sp (j:=i) (by omega) hi
   obtain⟨r3,r4⟩:=z8 two sp (j:=i -1) (by omega) (by omega)
   have w1:bd (i -1)=i -1:=aI (by omega) (by omega)
   have w2:bd (i+1)=i+1:=aI (by omega) (by omega)
   generalize hcs:flat two++sp=cs at*
   have d1:=decide_eq_true r1
   have d3:=decide_eq_true r3
   simp -implicitDefEqProofs only[go_sem,Nat.reduceBEq,Nat.reduceAdd,Nat.reduceMul,Nat.reduceLeDiff,Nat.reduceEqDiff,Nat.reduceBNe,UInt8.reduceToNat,UInt32.reduceToNat,hB',hlt,w1,w2,r2,r4,d1,d3,Bool.true_eq_false,Bool.false_eq_true,false_implies,true_implies,true_and,and_true]
   refine⟨⟨by omega,hi⟩,⟨Int.le_refl _,by omega⟩,⟨by omega,by omega⟩,⟨Int.le_refl _,by omega⟩,fun he=>?_,fun he=>?_⟩
   ·rw[he,cond_true,aF]at hb
    simp only[ns]at hb
    exact hb.1 trivial _ (hs.set hrb)
   ·rw[he,cond_false,aF]at hb
    exact hb
def L5(s:ab)(B2:Nat)(l:List aa)(k:Nat)(s':ab):Prop:=∃s1 r,s1 B2=some (.cells [iX r k])/\Sub s s1/\gQ s1 r (iC l k)/\s'=gI s1 r (iC l k)
theorem U0{s:ab}{B2:Nat}{l:List aa}{k:Nat}{s':ab}(hs0:s B2=none)(hk:k<20)(hch:(jZ l k).length=2)(h:L5 s B2 l k s'):
 swp prog (WZ zD) ⟨[(4,.ref B2 0),(5,E7 (jZ l k))],[],s'⟩ fun E'=>L5 s B2 l (k+1) E'.s:=by
 have cO:room=140737488355328:=rfl
 obtain⟨s1,r,h1,h2,h3,rfl⟩:=h
 have hB:gI s1 r (iC l k) B2=some (.cells [iX r k]):=jK h3 h1
 have hkl:(iC l k).length=k:=DF l k
 generalize hst:gI s1 r (iC l k)=st at hB
 rw[zD,WZ]
 unfold E7
 simp -implicitDefEqProofs only[go_sem,seval,hB]
 rw[gA]
 have fin:=xh (E:=?_) (d:=?_) (K:=?_) (by':=24) (s:=s1) (r:=r) (l:=iC l k) (z:=([]:VL)) (v:=(jZ l k:VL)) (sz:=1) ?_ h3 rfl (by rw[hkl];omega) ?_
 ·rw[hkl]at fin
  exact fin
 ·exact hst.symm
 ·intro s2 r' g1 g2
  have hB2:s2 B2=some (.cells [iX r k]):=g1 _ _ h1
  have hB3:gI s2 r' (iC l k++[jZ l k]) B2=some (.cells [iX r k]):=jK g2 hB2
  rw[hkl]
  generalize MA:gI s2 r' (iC l k++[jZ l k])=st2 at hB3
  simp -implicitDefEqProofs only[go_sem,seval,hB3]
  obtain⟨q1,q2⟩:=Yb (o':=.cells [iX r' (k+1)]) g2 hB2
  refine⟨s2.set B2 (.cells [iX r' (k+1)]),r',bG ..,fun b o hb=>?_,?_,?_⟩
  ·have hne:b≠B2:=fun e=>by subst e;rw[hs0]at hb;cases hb
   rw[aj hne]
   exact g1 _ _ (h2 _ _ hb)
  ·rw[Az];exact q2
  ·rw[Az,<-MA];exact q1
theorem Zw{n i j:Nat}{x y:AV}{G:Gh}{W:World}{s:ab}{t:Array Value}(hij:i≠j)(hi:i<n)(hj:j<n)(hg:cw G W)(hs:aW G W s)(ht:t.size=n)(hx:view x=x/\dF x=true)(hy:view y=y/\dF y=true)
 (h1:∀v,t[i]? =some v->VR W G.R x v)(h2:∀v,t[j]? =some v->VR W G.R y v):Inv G n [] ⟨[(i,x),(j,y)],[],s⟩ {tmps:=t,defers:=[]} W:=by
 have lk:∀k,look [(i,x),(j,y)] k=if i=k then x else if j=k then y else .undef:=fun k=>by rw[aQ,aQ];rfl
 refine⟨hg,hs,ht,fun k v hk=>?_,fun k hk=>?_,fun k d hd=>?_,rfl⟩
 ·show dt G W _ t k (look [(i,x),(j,y)] k) v
  rw[lk]
  by_cases e1:i=k
  ·subst e1;rw[if_pos rfl,<-hx.1];exact dt.BB hx.2 (h1 v hk)
  ·rw[if_neg e1]
   by_cases e2:j=k
   ·subst e2;rw[if_pos rfl,<-hy.1];exact dt.BB hy.2 (h2 v hk)
   ·rw[if_neg e2];exact⟨.undef _,trivial⟩
 ·show look [(i,x),(j,y)] k=.undef
  rw[lk,if_neg (by omega),if_neg (by omega)]
 ·have hd:bD (look [(i,x),(j,y)] k) d:=hd
  rw[lk]at hd
  split at hd
  ·exact(fc hx.2 d hd).elim
  ·split at hd
   ·exact(fc hy.2 d hd).elim
   ·exact hd.elim
theorem XH{l:List aa}{r:List aa×Int}{s:ab}(h:CZ l=some r):FE prog 182 [E7 l] s [.sl false 4 r.1.length (flat r.1),.int .i64 r.2] s:=by
 unfold CZ at h
 have h':ok (CZ l) fun x=>x=r:=⟨r,h,rfl⟩
 unfold CZ at h'
 simp only[dN,dS]at h'
 obtain⟨⟨hl0,alU,hl2⟩,hm⟩:=h'
 obtain⟨K,hK⟩:∃K,l.length=2*K:=⟨l.length/2,by omega⟩
 have hK2:l.length/2=K:=by omega
 rw[hK2]at hm
 have PE:(iC l K).length=K:=DF l K
 refine FN.lO ?_
 intro G w vs hg ho hs ha
 have hI:=LU (n:=40) hg hs ha (by rfl) (show 1<=40 by decide)
 refine callsIn_wide.1 (callsIn_of_wp_marks (n:=3) Go.Proofs.Tryz.func182 Ss trivial ?_ rfl)
 rw[XI]
 have mixed:=mix
 refine piece (AG mix) Su hI (aC.refl G w) (fun E'=>E'=⟨[(0,E7 l)],[],s⟩) ?_ ?_
 ·rw[GL];unfold E7
  simp -implicitDefEqProofs only[go_sem,seval]
 rintro G1 σ1 a1 w1 hI1 hp1 rfl
 refine piece (AG mix) Sv hI1 hp1 (fun E'=>∃B2,s B2=none/\E'=⟨[(0,E7 l),(4,.ref B2 0)],[],s.set B2 (.cells [.arr 0 0 0 0])⟩) ?_ ?_
 ·rw[GM];unfold E7
  simp -implicitDefEqProofs only[go_sem,seval]
  intro B2 hB2
  exact⟨B2,hB2,rfl⟩
 rintro G2 σ2 a2 w2 hI2 hp2 ⟨B2,hB2,rfl⟩
 refine wpIn_seq (piece (AG mix) Sw hI2 hp2 (fun E'=>∃Bs,(s.set B2 (.cells [.arr 0 0 0 0])) Bs=none/\∃Bn,((s.set B2 (.cells [.arr 0 0 0 0])).set Bs (.cells [E7 l])) Bn=none/\
  E'=⟨[(4,.ref B2 0),(8,.fn 262 [] [.ref Bs 0,.ref Bn 0])],[],((s.set B2 (.cells [.arr 0 0 0 0])).set Bs (.cells [E7 l])).set Bn (.cells [.int .i64 2])⟩) ?_ ?_)
 ·rw[GN];unfold E7
  simp -implicitDefEqProofs only[go_sem,seval]
  refine V6 fun Bs h1 Bn h2=>?_
  simp -implicitDefEqProofs only[go_sem,seval]
  exact⟨Bs,h1,Bn,h2,rfl⟩
 rintro G3 σ3 a3 w3 hI3 hp3 ⟨Bs,hBs,Bn,hBn,rfl⟩
 have n1:=hBs
 rw[dh]at n1
 have n2:=hBn
 rw[dh]at n2
 have n3:=n2.2
 rw[dh]at n3
 have hsz:=hI3.size
 have e8:a3.tmps[8]? =some (a3.eval (.tmp 8)):=ja (by rw[hsz];decide)
 have e4:a3.tmps[4]? =some (a3.eval (.tmp 4)):=ja (by rw[hsz];decide)
 have v8:VR w3 G3.R (.fn 262 [] [.ref Bs 0,.ref Bn 0]) (a3.eval (.tmp 8)):=(hI3.cy 8 _ e8).1
 have v4:VR w3 G3.R (.ref B2 0) (a3.eval (.tmp 4)):=(hI3.cy 4 _ e4).1
 obtain⟨vf,vc,hv8,hvf,_,hvc,Zr⟩:=VR.RX v8
 obtain rfl:vf= #[]:=Array.eq_empty_of_size_eq_zero hvf
 obtain rfl:vc= #[.pointer (some ⟨Bs,0,none⟩),.pointer (some ⟨Bn,0,none⟩)]:=by
  obtain⟨vl⟩:=vc
  match vl,hvc,Zr with
  |[x,y],_,Zr=>rw[VR.jl (Zr 0 _ x rfl rfl),VR.jl (Zr 1 _ y rfl rfl)]
 have hBx:(((s.set B2 (.cells [.arr 0 0 0 0])).set Bs (.cells [E7 l])).set Bn (.cells [.int .i64 2])) Bs=some (.cells [E7 l]):=by rw[aj n2.1.symm,bG]
 have hBy:(((s.set B2 (.cells [.arr 0 0 0 0])).set Bs (.cells [E7 l])).set Bn (.cells [.int .i64 2])) Bn=some (.cells [.int .i64 2]):=bG ..
 obtain⟨hOs,_,cs,ts,hhs,⟨akh,aki⟩,_⟩:=hI3.store Bs _ hBx
 obtain⟨hOn,_,cn,tn,hhn,⟨ake,akf⟩,_⟩:=hI3.store Bn _ hBy
 obtain⟨x,rfl⟩:∃x,cs= #[x]:=by
  obtain⟨cl⟩:=cs
  match cl,akh with
  |[x],_=>exact⟨x,rfl⟩
 obtain⟨y,rfl⟩:∃y,cn= #[y]:=by
  obtain⟨cl⟩:=cn
  match cl,ake with
  |[x],_=>exact⟨x,rfl⟩
 have hx:VR w3 G3.R (E7 l) x:=(aki 0 _ x rfl rfl).1
 have hy:y=.int .i64 2:=VR.cF (akf 0 _ y rfl rfl).1
 subst hy
 unfold E7 at hx
 rcases VR.iJ hx with⟨_,he,_⟩|⟨b,off,cap,rfl,hlen,hRb,iG,hat⟩
 ·exact absurd he (by omega)
 refine wpIn_block ?_
 rw[af3,ach]
 let tA:Nat->Array Value:=fun k=>a3.tmps.setIfInBounds 9 (fy b off k)
 have agL:∀k,((#[9]:Array Tmp).zip #[fy b off k]).foldl (fun t(p,v)=>t.setIfInBounds p v) a3.tmps=tA k:=fun k=>by simp[tA]
 have hav:∀k,k<K->VR w3 G3.R (E7 (jZ l k)) (fy b off k):=fun k hk=>V7 hRb hat (by omega)
 refine ail hI3 hv8 (fun args w=>tL Go.Proofs.Tryz.func262 (by kernel_rfl) (by kernel_rfl) args) (K:=K) (oI:=fy b off) (avs:=fun k=>E7 (jZ l k)) (S:=L5 s B2 l) [Bs,Bn] ?_ hav ?_ (fun k=>({tmps:=tA k,defers:=[]}:Act).put (some 5) (fy b off k)) ?_ ?_ ?_ ?_
 ·intro b' hb'
  simp only[List.mem_cons,List.not_mem_nil,or_false]at hb'
  rcases hb' with rfl|rfl
  ·exact qi.2 hOs
  ·exact qi.2 hOn
 ·refine⟨_,none,?_,fun b' o hb'=>?_,rfl,rfl⟩
  ·show(if B2∈[Bs,Bn]then none else(((s.set B2 (.cells [.arr 0 0 0 0])).set Bs (.cells [E7 l])).set Bn (.cells [.int .i64 2])) B2)=_
   rw[if_neg (by simp only[List.mem_cons,List.not_mem_nil,or_false,not_or];exact⟨n1.1.symm,n3.1.symm⟩),aj n3.1.symm,aj n1.1.symm,bG]
   rfl
  ·have e1:b'≠B2:=fun e=>by subst e;rw[hB2]at hb';cases hb'
   have e2:b'≠Bs:=fun e=>by subst e;rw[n1.2]at hb';cases hb'
   have e3:b'≠Bn:=fun e=>by subst e;rw[n3.2]at hb';cases hb'
   show(if b'∈[Bs,Bn]then none else(((s.set B2 (.cells [.arr 0 0 0 0])).set Bs (.cells [E7 l])).set Bn (.cells [.int .i64 2])) b')=_
   rw[if_neg (by simp only[List.mem_cons,List.not_mem_nil,or_false,not_or];exact⟨e2,e3⟩),aj e3,aj e2,aj e1]
   exact hb'
 ·intro lo J W hbx hdr hY h0
  have c1:w3.cell? ⟨Bs,0,none⟩=some (.slice (some ⟨b,off,none⟩) (2*K) cap):=by rw[<-hK];simp[World.cell?,hhs]
  have c2:w3.cell? ⟨Bn,0,none⟩=some (.int .i64 2):=by simp[World.cell?,hhn]
  exact Uk (lo:=lo) (Bs:=Bs) (Bn:=Bn) (b:=b) (off:=off) (K:=K) (cap:=cap) (by omega) (by omega) (fun k W h=>⟨(World.cell?_of_block (hbx k W h Bs (by simp))).trans c1,(World.cell?_of_block (hbx k W h Bn (by simp))).trans c2⟩) hdr hY h0
 ·intro lo k W K' hk
  rw[agL]
  have hev:({tmps:=tA k,defers:=[]}:Act).eval (.tmp 9)=fy b off k:=by
   show(a3.tmps.setIfInBounds 9 (fy b off k)).getD 9 undef=_
   rw[Array.getD_eq_getD_getElem?,Array.getElem?_setIfInBounds_self_of_lt (by rw[hsz];decide)]
   rfl
  refine wpIn_region_list (wpListIn_plain rfl fun K2 hK2=>⟨fun _ _=>trivial,?_⟩)
  rw[<-hev]at hk
  exact hK2 _ _ hk
 ·intro k hk lo G' W s' g1 g2 g3 hS hv R hR
  refine Ya Sy Qu (Zw (n:=40) (i:=4) (j:=5) (x:=.ref B2 0) (y:=E7 (jZ l k)) (t:=(tA k).setIfInBounds 5 (fy b off k)) (by decide) (by decide) (by decide) g1 g3 ?_ ⟨rfl,rfl⟩ ⟨rfl,rfl⟩ ?_ ?_) (U0 hB2 (by omega) (zk l k (by omega)) hS) hR
  ·show((a3.tmps.setIfInBounds 9 _).setIfInBounds 5 _).size=_
   rw[Array.size_setIfInBounds,Array.size_setIfInBounds,hsz]
  ·intro v hv4
   have hv4:((a3.tmps.setIfInBounds 9 (fy b off k)).setIfInBounds 5 (fy b off k))[4]? =some v:=hv4
   rw[Array.getElem?_setIfInBounds_ne (by decide),Array.getElem?_setIfInBounds_ne (by decide),e4,VR.jl v4]at hv4
   injection hv4 with hv4
   rw[<-hv4]
   exact .ref _ _
  ·intro v hv5
   have hv5:((a3.tmps.setIfInBounds 9 (fy b off k)).setIfInBounds 5 (fy b off k))[5]? =some v:=hv5
   rw[Array.getElem?_setIfInBounds_self_of_lt (by rw[Array.size_setIfInBounds,hsz];decide)]at hv5
   injection hv5 with hv5
   rw[<-hv5]
   exact hv
 ·intro G4 W4 s4 hS hI4 hp4 alT
  obtain⟨s1,r1,h1,h2,h3,rfl⟩:=hS
  obtain⟨rb,alN,sp,rfl⟩:=NQ h3 (by rw[PE];omega)
  have hlt:w3.heap.size<(w3.alloc (.deferred (some []))).heap.size:=by rw[World.size_alloc];omega
  refine last (AG mix) Sx (hI4.zR [4]) hp4 (SK pC fun rs s''=>∃s2,Sub s2 s''/\(rs=[.sl false 4 r.1.length (flat r.1),.int .i64 r.2]/\s2=s)) ?_ ?_
  ·refine Sz (s:=s) (own:=true) (by rw[PE];exact h1) h3.1 h2 (by rw[PE];omega) (by rw[PE];omega) ?_
   rw[PE]
   refine cT hm fun two⟨⟨q1,q2,q3⟩,q4⟩=>⟨fun c hc=>?_,q2,q3,cT q4 fun d hd=>⟨fun e s' hs'=>?_,fun e s' hs'=>?_⟩⟩
   ·have:=List.all_eq_true.1 q1 c hc
    simpa using this
   ·rw[e,cond_true,aF]at hd
    subst hd
    exact⟨s,hs',rfl,rfl⟩
   ·rw[e,cond_false,aF]at hd
    subst hd
    exact⟨s,hs',rfl,rfl⟩
  ·intro x G5 E' a' W5 k1 k2 k3
   have Mx:∀(eH:Jb (oR E' pC)=true)(hq:∃s2,Sub s2 E'.s/\(oR E' pC=[.sl false 4 r.1.length (flat r.1),.int .i64 r.2]/\s2=s)),_:=fun eH hq=>X6 (Q:=fun rs s''=>∃s2,Sub s2 s''/\(rs=[.sl false 4 r.1.length (flat r.1),.int .i64 r.2]/\s2=s)) U1 k1 ((hp3.trans (ie hI3.aV _ .frame 0).2.1).trans k2) (k2.kD _ hlt (by simp)).1 ((k2.kD _ hlt (by simp)).2.trans (by simp)) ((k2.frame _ hlt (.inl (by simp))).trans (World.alloc_heap_new w3 _)) hp3.size eH hq
   cases x with
   |ret=>exact Mx k3.1 k3.2
   |normal=>exact Mx k3.1 k3.2
   |_=>exact k3.elim
theorem Z5:Ap CZ:=fun _ _ _ h=>XH h
def qQ(b:List UInt8)(a:Int)(last:Bool):Option (aa×Int×Int):=tF CZ b a last
theorem wJ{b:List UInt8}{a:Int}{last:Bool}{s:ab}{r:aa×Int×Int}(h:qQ b a last=some r):FE prog 36 [.sl false 1 b.length (flat b),.int .i64 a,.bool last] s
 [.agg [.int .i64 r.1.Kind,.int .i64 r.1.N,.str r.1.S.b,.sl false 4 r.1.L.length (flat r.1.L)],.int .i64 r.2.1,.int .i64 r.2.2] s:=
 FN.lO (Yu Z5 ⟨r,h,fun s' hs=>⟨s,hs,rfl,rfl⟩⟩)
end Go.AB
end
section
end
section
set_option maxRecDepth 4000
namespace Go.AB
open Go
open Go.Proofs.Tryz (prog)
attribute[-go_sem] cu dj bO ct
structure fJ where
 b_:(List UInt8)
 at_:Int
 bB:Bool
instance:aP fJ:=⟨3,fun x=>[sF 1 x.b_,.int .i64 x.at_,.bool x.bB],(fJ.mk [] 0 false),by decide,fun _=>rfl,fun _=>rfl⟩
structure cS where
 aU:fJ
 e_:Int
instance:aP cS:=⟨4,fun x=>[sF 1 x.aU.b_,.int .i64 x.aU.at_,.bool x.aU.bB,.int .i64 x.e_],(cS.mk (fJ.mk [] 0 false) 0),by decide,fun _=>rfl,fun _=>rfl⟩
structure af where
 V:aa
 Stream:Bool
 Data:ar
instance:aP af:=⟨6,fun x=>[.int .i64 x.V.Kind,.int .i64 x.V.N,.str x.V.S.b,sF 4 x.V.L,.bool x.Stream,.str x.Data.b],(af.mk (aa.mk 0 0 (ar.mk []) []) false (ar.mk [])),by decide,fun _=>rfl,fun _=>rfl⟩
@[go_sem]theorem mR(x:af):aP.cells x=[.int .i64 x.V.Kind,.int .i64 x.V.N,.str x.V.S.b,sF 4 x.V.L,.bool x.Stream,.str x.Data.b]:=rfl
@[go_sem]theorem wI(l:List af)(i:Int):pad [.int .i64 0,.int .i64 0,.str [],.sl false 4 0 [],.bool false,.str []] (views (AB.sub (flat l) (i.toNat*6) 6))=[.int .i64 (((ix l i).V).Kind),.int .i64 (((ix l i).V).N),.str (((ix l i).V).S).b,.sl false 4 (((ix l i).V).L).length (flat (((ix l i).V).L)),.bool ((ix l i).Stream),.str ((ix l i).Data).b]:=by rw[<-mR];exact se _ 6 l i (by rw[mR];rfl) rfl
def jk(r_0:cS)(w_1:ar):Option (cS):=
 if r_0.e_ !=0 then
  none
 else
  aJ (kV r_0.aU.b_ r_0.aU.at_ r_0.aU.bB w_1) fun r1=>
  some (cS.mk (fJ.mk r_0.aU.b_ r1.1 r_0.aU.bB) r1.2)
def nO:IC:=
 (.seq (ae [mv 4 0,nc 5 4,fa 6 3 5,i1 7 (.bw jv false (.t 6)),bn 8 .neq 7 0] [0,1,8]
 (.cond (.t 8) .dead
 .skip))
 (.NK [] [(1,0,mv 10 0),(1,1,mv 11 0),(0,2,mv 12 0),(0,3,nc 13 12),(0,4,fa 14 0 13),(0,5,fa 15 0 14),(0,6,i1 16 (.bw [.sl false 1 0 []] false (.t 15))),(0,7,mv 17 0),(0,8,nc 18 17),(0,9,fa 19 0 18),(0,10,fa 20 1 19),(0,11,i1 21 (.bw jv false (.t 20))),(0,12,mv 22 0),(0,13,nc 23 22),(0,14,fa 24 0 23),(0,15,fa 25 2 24),(0,16,i1 26 (.bw [.bool false] false (.t 25))),(0,17,mv 27 1),(2,18,Vc 28 70 16 21 26 27),(0,19,gi 9 28),(0,20,ex 29 9 0),(1,21,ex 30 9 1),(0,22,nc 31 10),(0,23,fa 32 0 31),(0,24,fa 33 1 32),(2,25,st 1 33 29),(0,26,nc 34 11),(0,27,fa 35 3 34),(2,28,st 1 35 30)] []))
theorem v7:aE prog 170 36 [] nO=true:=by kernel_rfl
theorem vh{r_0 w_1}{B0:Nat}{s:ab}{Q:List AV->ab->Prop}(hB0:s B0=some (.cells [sF 1 r_0.aU.b_,.int .i64 r_0.aU.at_,.bool r_0.aU.bB,.int .i64 r_0.e_])):ok (jk r_0 w_1) (fun r=>Q [] (s.set B0 (.cells [sF 1 r.aU.b_,.int .i64 r.aU.at_,.bool r.aU.bB,.int .i64 r.e_])))->FN prog 170 [.ref B0 0,.str w_1.b] s Q:=by
 have hS:s=(s.set B0 (.cells [sF 1 r_0.aU.b_,.int .i64 r_0.aU.at_,.bool r_0.aU.bB,.int .i64 r_0.e_])):=by simp only[dZ hB0]
 rw[hS]
 intro h
 refine FO v7 rfl rfl ?_
 revert h
 rw[nO,jk]
 repeat'(first
  |(with_reducible first|exact bW|refine bj ?_ ?_|refine ch ?_|refine ah (fun _(h:kV r_0.aU.b_ r_0.aU.at_ r_0.aU.bB w_1=some _)=>yV h) (fun r1=>?_))
  |simp -implicitDefEqProofs only[go_sem,seval])
def eC(r_0:cS)(Mv:Int)(aaF:Int):Option (Int×cS):=
 if r_0.e_ !=0 then
  none
 else
  aJ (fG r_0.aU.b_ r_0.aU.at_ r_0.aU.bB) fun r1=>
  if(r1.2.2==0)&&((decide (r1.1<Mv))||(decide (r1.1>aaF)))then
   none
  else
   some (r1.1,(cS.mk (fJ.mk r_0.aU.b_ r1.2.1 r_0.aU.bB) r1.2.2))
def l5:IC:=
 (ae [mi 6 0] [0,1,2]
 (.seq (ae [mv 10 0,nc 11 10,fa 12 3 11,i1 13 (.bw jv false (.t 12)),bn 14 .neq 13 0] [0,1,2,14]
 (.cond (.t 14) .dead
 .skip))
 (.seq (.bJ (some 23) [mv 16 0,nc 17 16,fa 18 0 17,fa 19 0 18,i1 20 (.bw [.sl false 1 0 []] false (.t 19)),mv 21 0,nc 22 21,fa 23 0 22,fa 24 1 23,i1 25 (.bw jv false (.t 24)),mv 26 0,nc 27 26,fa 28 0 27,fa 29 2 28,i1 30 (.bw [.bool false] false (.t 29)),c3 31 69 20 25 30,gi 15 31,ex 32 15 0,ex 33 15 1,ex 34 15 2,mv 7 32,mv 8 33,mv 9 34] [0,1,2,7,8,9])
 (.seq (ae [mv 35 9,bn 36 .eql 35 0,mv 37 36,df 38 7 37 true,df 39 1 37 true,rF 40 37 true .lss 38 39,df 41 40 37 true,df 42 7 41 false,df 43 2 41 false,rF 44 41 false .gtr 42 43,du 45 37 true (.pick (.t 41) (.c (.bool true)) (.t 44)),pf 46 37 45] [0,7,8,9,46]
 (.cond (.t 46) .dead
 .skip))
 (ae [mv 47 0,mv 48 0,mv 49 8,mv 50 9,nc 51 47,fa 52 0 51,fa 53 1 52,st 1 53 49,nc 54 48,fa 55 3 54,st 1 55 50] [7]
 (ae [mv 56 7,mv 6 56] [6]
 .ret))))))
theorem tx:aE prog 169 57 [⟨6,true,none⟩] l5=true:=by kernel_rfl
theorem lW{r_0 Mv aaF}{B0:Nat}{s:ab}{Q:List AV->ab->Prop}(hB0:s B0=some (.cells [sF 1 r_0.aU.b_,.int .i64 r_0.aU.at_,.bool r_0.aU.bB,.int .i64 r_0.e_])):ok (eC r_0 Mv aaF) (fun r=>Q [.int .i64 r.1] (s.set B0 (.cells [sF 1 r.2.aU.b_,.int .i64 r.2.aU.at_,.bool r.2.aU.bB,.int .i64 r.2.e_])))->FN prog 169 [.ref B0 0,.int .i64 Mv,.int .i64 aaF] s Q:=by
 have hS:s=(s.set B0 (.cells [sF 1 r_0.aU.b_,.int .i64 r_0.aU.at_,.bool r_0.aU.bB,.int .i64 r_0.e_])):=by simp only[dZ hB0]
 rw[hS]
 intro h
 refine FO tx rfl rfl ?_
 revert h
 rw[l5,eC]
 repeat'(first
  |(with_reducible first|exact bW|refine bj ?_ ?_|refine ch ?_|refine ba (fun _(h:fG r_0.aU.b_ r_0.aU.at_ r_0.aU.bB=some _)=>oF h) (fun _=>rfl) (fun r1=>?_))
  |simp -implicitDefEqProofs only[go_sem,seval])
def iE(r_0:cS):Option (aa×cS):=
 if r_0.e_ !=0 then
  none
 else
  aJ (qQ r_0.aU.b_ r_0.aU.at_ r_0.aU.bB) fun r1=>
  some (r1.1,(cS.mk (fJ.mk r_0.aU.b_ r1.2.1 r_0.aU.bB) r1.2.2))
def mH:IC:=
 (ae [i1 2 (.an gj)] [0,2]
 (.seq (ae [mv 6 0,nc 7 6,fa 8 3 7,i1 9 (.bw jv false (.t 8)),bn 10 .neq 9 0] [0,2,10]
 (.cond (.t 10) .dead
 .skip))
 (.seq (.oG [3] 24 [mv 13 0,nc 14 13,fa 15 0 14,fa 16 0 15,i1 17 (.bw [.sl false 1 0 []] false (.t 16)),mv 18 0,nc 19 18,fa 20 0 19,fa 21 1 20,i1 22 (.bw jv false (.t 21)),mv 23 0,nc 24 23,fa 25 0 24,fa 26 2 25,i1 27 (.bw [.bool false] false (.t 26)),c3 28 36 17 22 27,gi 12 28,ex 29 12 0,ex 30 12 1,ex 31 12 2,i1 3 (.an gj),st 4 3 29,mv 4 30,mv 5 31] [0,2,3,4,5])
 (ae [mv 32 0,mv 33 0,mv 34 4,mv 35 5,nc 36 32,fa 37 0 36,fa 38 1 37,st 1 38 34,nc 39 33,fa 40 3 39,st 1 40 35] [2,3]
 (ae [lm 41 4 3,st 4 2 41] [2]
 .ret)))))
theorem uH:aE prog 172 42 [⟨2,false,some (4,true)⟩] mH=true:=by kernel_rfl
theorem uF{r_0}{B0:Nat}{s:ab}{Q:List AV->ab->Prop}(hB0:s B0=some (.cells [sF 1 r_0.aU.b_,.int .i64 r_0.aU.at_,.bool r_0.aU.bB,.int .i64 r_0.e_])):ok (iE r_0) (fun r=>Q [oV r.1] (s.set B0 (.cells [sF 1 r.2.aU.b_,.int .i64 r.2.aU.at_,.bool r.2.aU.bB,.int .i64 r.2.e_])))->FN prog 172 [.ref B0 0] s Q:=by
 have hS:s=(s.set B0 (.cells [sF 1 r_0.aU.b_,.int .i64 r_0.aU.at_,.bool r_0.aU.bB,.int .i64 r_0.e_])):=by simp only[dZ hB0]
 rw[hS]
 intro h
 refine FO uH rfl rfl ?_
 revert h
 rw[mH,iE]
 repeat'(first
  |with_reducible exact bW
  |((with_reducible refine Jc ?_ ?_);exact rfl)
  |(with_reducible first|refine bj ?_ ?_|refine ch ?_|refine ba (fun _(h:qQ r_0.aU.b_ r_0.aU.at_ r_0.aU.bB=some _)=>wJ h) (fun _=>rfl) (fun r1=>?_))
  |simp -implicitDefEqProofs only[go_sem,seval])
def gv(r_0:cS):Option (Bool×cS):=
 if r_0.e_ !=0 then
  none
 else
  aJ (eo r_0.aU.b_ r_0.aU.at_ r_0.aU.bB) fun r1=>
  if r1.2 !=0 then
   none
  else
   if r1.1.Kind==0 then
    none
   else
    if(r1.1.Kind !=6)||((!(r1.1.S.b==(ar.mk [101,110,100,111,98,106]).b))&&(!(r1.1.S.b==(ar.mk [115,116,114,101,97,109]).b)))then
     none
    else
     some ((r1.2==0)&&(r1.1.S.b==(ar.mk [115,116,114,101,97,109]).b),(cS.mk (fJ.mk r_0.aU.b_ r1.1.To r_0.aU.bB) r1.2))
def lj:IC:=
 (ae [cZ 2 (.bool false)] [0]
 (.seq (ae [mv 5 0,nc 6 5,fa 7 3 6,i1 8 (.bw jv false (.t 7)),bn 9 .neq 8 0] [0,9]
 (.cond (.t 9) .dead
 .skip))
 (.seq (.oG [3] 22 [mv 11 0,nc 12 11,fa 13 0 12,fa 14 0 13,i1 15 (.bw [.sl false 1 0 []] false (.t 14)),mv 16 0,nc 17 16,fa 18 0 17,fa 19 1 18,i1 20 (.bw jv false (.t 19)),mv 21 0,nc 22 21,fa 23 0 22,fa 24 2 23,i1 25 (.bw [.bool false] false (.t 24)),c3 26 127 15 20 25,gi 10 26,ex 27 10 0,ex 28 10 1,i1 3 (.an Ce),st 8 3 27,mv 4 28] [0,3,4])
 (ae [mv 29 0,mv 30 0,fa 31 2 3,ld 32 1 31,mv 33 4,nc 34 29,fa 35 0 34,fa 36 1 35,st 1 36 32,nc 37 30,fa 38 3 37,st 1 38 33] [0,3,4]
 (.seq (.block 0 (ae [mv 40 4,bn 41 .neq 40 0,mv 39 41] [0,3,39]
 (.cond (.t 39) .dead
 (ae [fa 43 0 3,ld 44 1 43,bn 45 .eql 44 0,mv 42 45] [0,3,42]
 (.cond (.t 42) .dead
 (ae [fa 49 0 3,ld 50 1 49,bn 51 .neq 50 6,mv 52 51,fg 53 52 false 7 3,lg 54 52 false 1 53,du 55 52 false (.bin .neq (.t 54) (.c (.str [101,110,100,111,98,106]))),df 56 55 52 false,fg 57 56 true 7 3,lg 58 56 true 1 57,du 59 56 true (.bin .neq (.t 58) (.c (.str [115,116,114,101,97,109]))),du 60 52 false (.pick (.t 56) (.t 59) (.c (.bool false))),po 61 52 60,mv 48 61] [0,3,48]
 (.cond (.t 48) .dead
 .skip)))))))
 (ae [mv 64 0,nc 65 64,fa 66 3 65,i1 67 (.bw jv false (.t 66)),bn 68 .eql 67 0,mv 69 68,fg 70 69 true 7 3,lg 71 69 true 1 70,du 72 69 true (.bin .eql (.t 71) (.c (.str [115,116,114,101,97,109]))),pf 73 69 72,mv 2 73] [2]
 .ret))))))
theorem sA:aE prog 173 74 [⟨2,true,none⟩] lj=true:=by kernel_rfl
theorem sf{r_0}{B0:Nat}{s:ab}{Q:List AV->ab->Prop}(hB0:s B0=some (.cells [sF 1 r_0.aU.b_,.int .i64 r_0.aU.at_,.bool r_0.aU.bB,.int .i64 r_0.e_])):ok (gv r_0) (fun r=>Q [.bool r.1] (s.set B0 (.cells [sF 1 r.2.aU.b_,.int .i64 r.2.aU.at_,.bool r.2.aU.bB,.int .i64 r.2.e_])))->FN prog 173 [.ref B0 0] s Q:=by
 have hS:s=(s.set B0 (.cells [sF 1 r_0.aU.b_,.int .i64 r_0.aU.at_,.bool r_0.aU.bB,.int .i64 r_0.e_])):=by simp only[dZ hB0]
 rw[hS]
 intro h
 refine FO sA rfl rfl ?_
 revert h
 rw[lj,gv]
 repeat'(first
  |with_reducible exact bW
  |((with_reducible refine Jc ?_ ?_);exact rfl)
  |(with_reducible first|refine bj ?_ ?_|refine ch ?_|refine ba (fun _(h:eo r_0.aU.b_ r_0.aU.at_ r_0.aU.bB=some _)=>lq h) (fun _=>rfl) (fun r1=>?_))
  |simp -implicitDefEqProofs only[go_sem,seval])
def lV(v_0:aa):Option (af):=some (af.mk v_0 false (ar.mk []))
def ue:IC:=
 (ae [i1 1 (.b8 4 (.t 0)),i1 2 (.an qR)] [1,2]
 (ae [lm 3 4 1,i1 4 (.build qR [(0,4,(.t 3))]),st 6 2 4] [2]
 .ret))
theorem ED:aE prog 171 5 [⟨2,false,some (6,true)⟩] ue=true:=by kernel_rfl
theorem Es{v_0}{s:ab}{Q:List AV->ab->Prop}:ok (lV v_0) (fun r=>Q [.agg [.int .i64 r.V.Kind,.int .i64 r.V.N,.str r.V.S.b,sF 4 r.V.L,.bool r.Stream,.str r.Data.b]] s)->FN prog 171 [oV v_0] s Q:=by
 intro h
 refine FO ED rfl rfl ?_
 revert h
 rw[ue,lV]
 repeat'(first
  |simp -implicitDefEqProofs only[go_sem,seval])
theorem Er{v_0}{s:ab}{r:af}(h:lV v_0=some r):FE prog 171 [oV v_0] s [.agg [.int .i64 r.V.Kind,.int .i64 r.V.N,.str r.V.S.b,sF 4 r.V.L,.bool r.Stream,.str r.Data.b]] s:=Es ⟨r,h,rfl,rfl⟩
def qC(b_0:(List UInt8))(cX:Int)(bK:Bool):Option (Int×af×Int×Int):=
 aJ (eC (cS.mk (fJ.mk b_0 cX bK) 0) 1 4096) fun r1=>
 aJ (eC r1.2 0 0) fun r2=>
 aJ (jk r2.2 (ar.mk [111,98,106])) fun r3=>
 aJ (iE r3) fun r4=>
 aJ (lV r4.1) fun r5=>
 aJ (gv r4.2) fun r6=>
 if r6.1 then
  none
 else
  if r6.2.e_ !=0 then
   none
  else
   some (r1.1,r5,r6.2.aU.at_,0)
def vz:IC:=
 (ae [mi 6 0,i1 7 (.an qR),mi 8 0,mi 9 0] [0,1,2,7]
 (ae [mt 13 0,mv 14 1,mv 15 2,i1 16 (.build [.sl true 1 0 [],.int .i64 0,.bool false] [(0,1,(.t 13)),(1,1,(.t 14)),(2,1,(.t 15))]),i1 17 (.build [.sl true 1 0 [],.int .i64 0,.bool false,.int .i64 0] [(0,3,(.t 16))]),i1 18 (.oU 4 (.t 17)),mv 10 18] [7,10]
 (ae [mv 19 10,i1 20 (.call 169 [(.t 19),(.c (.int .i64 1)),(.c (.int .i64 4096))]),mv 11 20] [7,10,11]
 (ae [mv 21 10,i1 22 (.call 169 [(.t 21),(.c (.int .i64 0)),(.c (.int .i64 0))])] [7,10,11]
 (ae [mv 23 10,i1 24 (.call 170 [(.t 23),(.c (.str [111,98,106]))])] [7,10,11]
 (ae [mv 25 10,c1 26 172 25,c1 27 171 26,i1 12 (.an qR),st 6 12 27] [7,10,11,12]
 (.seq (ae [mv 28 10,c1 29 173 28] [7,10,11,12,29]
 (.cond (.t 29) .dead
 .skip))
 (.seq (ae [mv 34 10,nc 35 34,fa 36 3 35,i1 37 (.bw jv false (.t 36)),bn 38 .neq 37 0] [7,10,11,12,38]
 (.cond (.t 38) .dead
 .skip))
 (.seq (.oG [7] 11 [mv 44 11,lm 45 6 12,mv 46 10,nc 47 46,fa 48 0 47,fa 49 1 48,i1 50 (.bw jv false (.t 49)),mv 6 44,st 6 7 45,mv 8 50,mi 9 0] [6,7,8,9])
 .ret)))))))))
theorem GW:aE prog 118 51 [⟨6,true,none⟩,⟨7,false,some (6,true)⟩,⟨8,true,none⟩,⟨9,true,none⟩] vz=true:=by kernel_rfl
theorem Gr{b_0 cX bK}{s:ab}{Q:List AV->ab->Prop}:ok (qC b_0 cX bK) (fun r=>Q [.int .i64 r.1,.agg [.int .i64 r.2.1.V.Kind,.int .i64 r.2.1.V.N,.str r.2.1.V.S.b,sF 4 r.2.1.V.L,.bool r.2.1.Stream,.str r.2.1.Data.b],.int .i64 r.2.2.1,.int .i64 r.2.2.2] s)->FN prog 118 [sF 1 b_0,.int .i64 cX,.bool bK] s Q:=by
 intro h
 refine FN.forget ?_
 refine FO GW rfl rfl ?_
 revert h
 rw[vz,qC]
 repeat'(first
  |(with_reducible first|exact bW|refine bj ?_ ?_|refine ch ?_|refine fun hh=>lW (B0:=N1) (by simp -implicitDefEqProofs only[go_sem,seval]<;>simp only[bM]) (cT (show ok (eC (cS.mk (fJ.mk b_0 cX bK) 0) 1 4096) _ from hh) fun r1=>?_)|refine fun hh=>lW (B0:=N1) (by simp -implicitDefEqProofs only[go_sem,seval]<;>simp only[bM]) (cT (show ok (eC r1.2 0 0) _ from hh) fun r2=>?_)|refine fun hh=>vh (B0:=N1) (by simp -implicitDefEqProofs only[go_sem,seval]<;>simp only[bM]) (cT (show ok (jk r2.2 (ar.mk [111,98,106])) _ from hh) fun r3=>?_)|refine fun hh=>uF (B0:=N1) (by simp -implicitDefEqProofs only[go_sem,seval]<;>simp only[bM]) (cT (show ok (iE r3) _ from hh) fun r4=>?_)|refine ah (fun _(h:lV r4.1=some _)=>Er h) (fun r5=>?_)|refine fun hh=>sf (B0:=N1) (by simp -implicitDefEqProofs only[go_sem,seval]<;>simp only[bM]) (cT (show ok (gv r4.2) _ from hh) fun r6=>?_))
  |((fail_if_success (have _x:=sN1));with_reducible intro hh N1 hN1;(try simp only[dh]at hN1);have sN1:=hN1;revert hh)
  |with_reducible exact fun hh=>⟨_,lP.set (lP.refl _) (by simp[ab.set,sN1]),hh⟩
  |simp -implicitDefEqProofs only[go_sem,seval])
theorem Gq{b_0 cX bK}{s:ab}{r:Int×af×Int×Int}(h:qC b_0 cX bK=some r):FE prog 118 [sF 1 b_0,.int .i64 cX,.bool bK] s [.int .i64 r.1,.agg [.int .i64 r.2.1.V.Kind,.int .i64 r.2.1.V.N,.str r.2.1.V.S.b,sF 4 r.2.1.V.L,.bool r.2.1.Stream,.str r.2.1.Data.b],.int .i64 r.2.2.1,.int .i64 r.2.2.2] s:=Gr ⟨r,h,rfl,rfl⟩
end Go.AB
end
section
set_option maxRecDepth 4000
namespace Go.AB
open Go
open Go.Proofs.Tryz (prog)
theorem FN.args{P:Program}{f:FuncId}{args DD:List AV}{s:ab}{Q:List AV->ab->Prop}(h:FN P f DD s Q)(ha:∀(G:Gh)(w:World)(vs:Array Value),aW G w s->mE w G.R args vs->mE w G.R DD vs):FN P f args s Q:=fun G w vs h1 h2 h3 h4=>h G w vs h1 h2 h3 (ha G w vs h3 h4)
structure al where
 b6:Int
 To:Int
 deriving DecidableEq
instance:aP al:=⟨2,fun x=>[.int .i64 x.b6,.int .i64 x.To],(al.mk 0 0),by decide,fun _=>rfl,fun _=>rfl⟩
@[go_sem]theorem uZ(x:al):aP.cells x=[.int .i64 x.b6,.int .i64 x.To]:=rfl
@[go_sem]theorem Z2(l:List al)(i:Int):pad [.int .i64 0,.int .i64 0] (views (AB.sub (flat l) (i.toNat*2) 2))=[.int .i64 ((ix l i).b6),.int .i64 ((ix l i).To)]:=by rw[<-uZ];exact se _ 2 l i (by rw[uZ];rfl) rfl
def lf(x_0:al):Option (Bool):=some ((decide (x_0.b6<0))||(decide (x_0.To<=x_0.b6)))
def yL:IC:=
 (ae [i1 1 (.b8 2 (.t 0)),cZ 2 (.bool false)] [1]
 (ae [fa 3 0 1,ld 4 1 3,bn 5 .lss 4 0,mv 6 5,fg 7 6 false 1 1,lg 8 6 false 1 7,fg 9 6 false 0 1,lg 10 6 false 1 9,rF 11 6 false .leq 8 10,po 12 6 11,mv 2 12] [2]
 .ret))
theorem JV:aE prog 175 13 [⟨2,true,none⟩] yL=true:=by kernel_rfl
theorem KF{x_0}{s:ab}{Q:List AV->ab->Prop}:ok (lf x_0) (fun r=>Q [.bool r] s)->FN prog 175 [.agg [.int .i64 x_0.b6,.int .i64 x_0.To]] s Q:=by
 intro h
 refine FO JV rfl rfl ?_
 revert h
 rw[yL,lf]
 repeat'(first
  |simp -implicitDefEqProofs only[go_sem,seval])
theorem rK{x_0}{s:ab}{r:Bool}(h:lf x_0=some r):FE prog 175 [.agg [.int .i64 x_0.b6,.int .i64 x_0.To]] s [.bool r] s:=KF ⟨r,h,rfl,rfl⟩
def aX(s_0:(List al)):Option (Int):=
 yS (
  jY (
   iter (fun(t2:Int)=>
    if decide (t2<(s_0.length:Int))then
     aB (0<=t2/\t2<s_0.length)<|
     aJ (lf (ix s_0 t2)) fun r4=>
     if r4 then
      some (.inr (.inr t2))
     else
      some (.inl (bd (t2+1)))
    else
     some (.inr (.inl ()))) 0) (fun(_:Unit)=>
   some (.inl ()))
  (fun(t3:Int)=>some (.inr t3))) (fun(_:Unit)=>
  some (-1))
 (fun(t1:Int)=>some t1)
theorem PB:(pR prog 175=true)=True:=eq_true (by kernel_rfl)
def fB:IC:=
 (ae [mi 4 0] [0,1]
 (.join [] (ae [mv 6 0,le 7 0 6,mi 8 0] [0,1,7,8]
 (.block 0 (.loop [(0,true),(1,false),(7,false),(8,false)] (ae [bt 9 .lss 8 7] [0,1,7,8,9]
 (.seq (.cond (.t 9) .skip
 (.exit 0))
 (.seq (.block 1 (ae [mv 10 8,mv 5 10] [0,1,5,7,8]
 (ae [mv 11 1,mv 12 0,mv 13 5,ia 14 [.int .i64 0,.int .i64 0] 12 13,lm 15 2 14,i1 16 (.cG (.t 11) [(.t 15)])] [0,1,5,7,8,16]
 (.cond (.t 16) (ae [mv 17 5,mv 4 17] [4]
 .ret)
 .skip))))
 (.bJ none [bn 18 .add 8 1,mv 8 18] [0,1,7,8])))))))
 (ae [mi 4 (-1)] [4]
 .ret)))
theorem j5:aE prog 249 19 [⟨4,true,none⟩] fB=true:=by kernel_rfl
theorem j8{s_0}{s:ab}{Q:List AV->ab->Prop}:ok (aX s_0) (fun r=>Q [.int .i64 r] s)->FN prog 249 [sF 2 s_0,.fn 175 [] []] s Q:=by
 intro h
 refine FO j5 rfl rfl ?_
 revert h
 rw[fB,aX]
 repeat'(first
  |(with_reducible first|exact bW|refine bj ?_ ?_|refine ch ?_|refine ah (fun _(h:lf (ix s_0 t2)=some _)=>rK h) (fun r4=>?_))
  |((with_reducible refine aY (fun(t2:Int)=>⟨[(0,sF 2 s_0),(1,.fn 175 [] []),(7,.int .i64 (s_0.length:Int)),(8,.int .i64 t2)],[],s⟩) ?_ ?_);(first|exact rfl|simp -implicitDefEqProofs only[go_sem,seval,PB]);rintro J t2)
  |((with_reducible refine dD (fun(_:Unit)=>⟨[],[],s⟩) (fun J=>?_) ?_);rotate_left;rintro _)
  |simp -implicitDefEqProofs only[go_sem,seval,PB])
theorem fE{s_0}{s:ab}{r:Int}(h:aX s_0=some r):FE prog 249 [sF 2 s_0,.fn 175 [] []] s [.int .i64 r] s:=j8 ⟨r,h,rfl,rfl⟩
def eX(x_0:Int):Option (Bool):=some (x_0 !=x_0)
def ud:IC:=
 (ae [cZ 2 (.bool false)] [0]
 (ae [mv 3 0,mv 4 0,bt 5 .neq 3 4,mv 2 5] [2]
 .ret))
theorem EC:aE prog 201 6 [⟨2,true,none⟩] ud=true:=by kernel_rfl
theorem Eo{x_0}{s:ab}{Q:List AV->ab->Prop}:ok (eX x_0) (fun r=>Q [.bool r] s)->FN prog 201 [.int .i64 x_0] s Q:=by
 intro h
 refine FO EC rfl rfl ?_
 revert h
 rw[ud,eX]
 repeat'(first
  |simp -implicitDefEqProofs only[go_sem,seval])
theorem tX{x_0}{s:ab}{r:Bool}(h:eX x_0=some r):FE prog 201 [.int .i64 x_0] s [.bool r] s:=Eo ⟨r,h,rfl,rfl⟩
def bV(x_0:Int)(y_1:Int):Option (Int):=
 aJ (eX x_0) fun r1=>
 aJ (eX y_1) fun r2=>
 if r1 then
  if r2 then
   some 0
  else
   some (-1)
 else
  if r2 then
   some 1
  else
   if decide (x_0<y_1)then
    some (-1)
   else
    if decide (x_0>y_1)then
     some 1
    else
     some 0
def qF:IC:=
 (ae [mi 4 0] [0,1]
 (ae [mv 7 0,c1 8 201 7,mv 5 8] [0,1,5]
 (ae [mv 9 1,c1 10 201 9,mv 6 10] [0,1,5,6]
 (.seq (ae [mv 11 5] [0,1,6,11]
 (.cond (.t 11) (.seq (ae [mv 12 6] [12]
 (.cond (.t 12) (ae [mi 4 0] [4]
 .ret)
 .skip))
 (ae [mi 4 (-1)] [4]
 .ret))
 .skip))
 (.seq (ae [mv 13 6] [0,1,13]
 (.cond (.t 13) (ae [mi 4 1] [4]
 .ret)
 .skip))
 (.seq (ae [mv 14 0,mv 15 1,bt 16 .lss 14 15] [0,1,16]
 (.cond (.t 16) (ae [mi 4 (-1)] [4]
 .ret)
 .skip))
 (.seq (ae [mv 17 0,mv 18 1,bt 19 .gtr 17 18] [19]
 (.cond (.t 19) (ae [mi 4 1] [4]
 .ret)
 .skip))
 (ae [mi 4 0] [4]
 .ret))))))))
theorem Br:aE prog 165 20 [⟨4,true,none⟩] qF=true:=by kernel_rfl
theorem AD{x_0 y_1}{s:ab}{Q:List AV->ab->Prop}:ok (bV x_0 y_1) (fun r=>Q [.int .i64 r] s)->FN prog 165 [.int .i64 x_0,.int .i64 y_1] s Q:=by
 intro h
 refine FO Br rfl rfl ?_
 revert h
 rw[qF,bV]
 repeat'(first
  |(with_reducible first|refine ah (fun _(h:eX x_0=some _)=>tX h) (fun r1=>?_)|refine ah (fun _(h:eX y_1=some _)=>tX h) (fun r2=>?_))
  |simp -implicitDefEqProofs only[go_sem,seval])
theorem jj{x_0 y_1}{s:ab}{r:Int}(h:bV x_0 y_1=some r):FE prog 165 [.int .i64 x_0,.int .i64 y_1] s [.int .i64 r] s:=AD ⟨r,h,rfl,rfl⟩
def gh(oJ:(List Int)):Option (Int):=
 yS (
  jY (
   iter (fun(t3:Int)=>
    if decide (t3<(oJ.length:Int))then
     aB (0<=t3/\t3<oJ.length)<|
     if(ix oJ t3)!=0 then
      some (.inr (.inr (ix oJ t3)))
     else
      some (.inl (bd (t3+1)))
    else
     some (.inr (.inl ()))) 0) (fun(_:Unit)=>
   some (.inl ()))
  (fun(t5:Int)=>some (.inr t5))) (fun(_:Unit)=>
  some 0)
 (fun(t2:Int)=>some t2)
def AZ:IC:=
 (ae [mi 2 0] [0]
 (ae [mi 3 0] [0,3]
 (.join [(3,false)] (ae [mt 6 0,le 7 0 6,mi 8 0] [3,6,7,8]
 (.block 0 (.loop [(3,false),(6,true),(7,false),(8,false)] (ae [bt 9 .lss 8 7] [3,6,7,8,9]
 (.seq (.cond (.t 9) .skip
 (.exit 0))
 (.seq (.block 1 (ae [ia 10 jv 6 8,ld 11 1 10,mv 5 11] [3,5,6,7,8]
 (ae [mv 12 5,mv 13 3,bt 14 .neq 12 13] [3,5,6,7,8,14]
 (.cond (.t 14) (ae [mv 15 5,mv 2 15] [2]
 .ret)
 .skip))))
 (.bJ none [bn 16 .add 8 1,mv 8 16] [3,6,7,8])))))))
 (ae [mv 17 3,mv 2 17] [2]
 .ret))))
theorem MF:aE prog 164 18 [⟨2,true,none⟩] AZ=true:=by kernel_rfl
theorem Ml{oJ}{s:ab}{Q:List AV->ab->Prop}:ok (gh oJ) (fun r=>Q [.int .i64 r] s)->FN prog 164 [sF 1 oJ] s Q:=by
 intro h
 refine FO MF rfl rfl ?_
 revert h
 rw[AZ,gh]
 repeat'(first
  |((with_reducible refine aY (fun(t3:Int)=>⟨[(3,.int .i64 0),(6,sF 1 oJ),(7,.int .i64 (oJ.length:Int)),(8,.int .i64 t3)],[],s⟩) ?_ ?_);(first|exact rfl|simp -implicitDefEqProofs only[go_sem,seval]);rintro J t3)
  |((with_reducible refine dD (fun(_:Unit)=>⟨[(3,.int .i64 0)],[],s⟩) (fun J=>?_) ?_);rotate_left;rintro _)
  |simp -implicitDefEqProofs only[go_sem,seval])
theorem AE{oJ}{s:ab}{r:Int}(h:gh oJ=some r):FE prog 164 [sF 1 oJ] s [.int .i64 r] s:=Ml ⟨r,h,rfl,rfl⟩
def qX(a_0:al)(b_1:al):Option (Int):=
 aJ (bV a_0.b6 b_1.b6) fun r1=>
 aJ (bV a_0.To b_1.To) fun r2=>
 aJ (gh [r1,r2]) fun r3=>
 some r3
def vT:IC:=
 (ae [i1 2 (.b8 2 (.t 0)),i1 3 (.b8 2 (.t 1)),mi 4 0] [2,3]
 (.seq (.bJ (some 13) [fa 5 0 2,ld 6 1 5,fa 7 0 3,ld 8 1 7,c2 9 165 6 8,fa 10 1 2,ld 11 1 10,fa 12 1 3,ld 13 1 12,c2 14 165 11 13,i1 15 (.aN 1 2 [.int .i64 0,.int .i64 0] [(0,1,(.t 9)),(1,1,(.t 14))]),c1 16 164 15,mv 4 16] [4])
 .ret))
theorem Hn:aE prog 213 17 [⟨4,true,none⟩] vT=true:=by kernel_rfl
theorem IM{a_0 b_1}{s:ab}{Q:List AV->ab->Prop}:ok (qX a_0 b_1) (fun r=>Q [.int .i64 r] s)->FN prog 213 [.agg [.int .i64 a_0.b6,.int .i64 a_0.To],.agg [.int .i64 b_1.b6,.int .i64 b_1.To]] s Q:=by
 intro h
 refine FO Hn rfl rfl ?_
 revert h
 rw[vT,qX]
 repeat'(first
  |(with_reducible first|refine ba (fun _(h:bV a_0.b6 b_1.b6=some _)=>jj h) (fun _=>rfl) (fun r1=>?_)|refine ba (fun _(h:bV a_0.To b_1.To=some _)=>jj h) (fun _=>rfl) (fun r2=>?_)|refine ba (fun _(h:gh [r1,r2]=some _)=>(by refine gL ?_ (AE h);simp -implicitDefEqProofs only[go_sem,seval])) (fun _=>rfl) (fun r3=>?_))
  |simp -implicitDefEqProofs only[go_sem,seval])
theorem IL{a_0 b_1}{s:ab}{r:Int}(h:qX a_0 b_1=some r):FE prog 213 [.agg [.int .i64 a_0.b6,.int .i64 a_0.To],.agg [.int .i64 b_1.b6,.int .i64 b_1.To]] s [.int .i64 r] s:=IM ⟨r,h,rfl,rfl⟩
def DQ:IC:=
 (ae [cZ 2 (.arr 0 0 0 0)] [0]
 (.seq (ae [mv 3 0,i1 4 (.YI false (.t 3))] [0,4]
 (.cond (.t 4) (ae [cZ 2 (.arr 0 0 0 0)] [2]
 .ret)
 .skip))
 (ae [i1 5 (.j9 2 0 [] []),mv 6 0,i1 7 (.fk 2 16 [.int .i64 0,.int .i64 0] (.t 5) (.t 6)),mv 2 7] [2]
 .ret)))
theorem PM:aE prog 203 8 [⟨2,true,none⟩] DQ=true:=by kernel_rfl
def Cl(l:List al)(s:ab)(rs:List AV)(s':ab):Prop:=(∃b cap sp,rs=[.arr b 0 l.length cap]/\s b=none/\0<cap/\l.length<=cap/\(flat l++sp).length=cap*2/\views (flat l++sp)=flat l++sp/\s'=s.set b (.cells (flat l++sp)))\/(l=[]/\s'=s/\∃b,rs=[.arr b 0 0 0])
theorem AA{o:Bool}{l:List al}{s:ab}(hr:l.length*16<=room):FN prog 203 [.sl o 2 l.length (flat l)] s (Cl l s):=by
 refine FN.lO (FO PM rfl rfl ?_)
 generalize hQ:(fun rs s'=>∃s2,Sub s2 s'/\Cl l s rs s2)=Q
 have hq:∀rs s' s2,Sub s2 s'->Cl l s rs s2->Q rs s':=fun rs s' s2 h1 h2=>by rw[<-hQ];exact⟨s2,h1,h2⟩
 rw[DQ]
 simp -implicitDefEqProofs only[go_sem,seval]
 intro v hv
 refine⟨fun h=>hq _ _ s (Sub.refl s) (.inr ⟨List.eq_nil_of_length_eq_zero (hv (by simpa using h)),rfl,0,rfl⟩),fun _ b1 hb1=>?_⟩
 rw[gA,aH]
 by_cases hl:l=[]
 ·subst hl
  refine x6 rfl rfl (Nat.le_refl 0) ?_
  simp -implicitDefEqProofs only[go_sem,seval]
  exact hq _ _ s ((Sub.refl s).set hb1) (.inr ⟨rfl,rfl,_,rfl⟩)
 ·have hn:0<l.length:=List.length_pos_iff.2 hl
  refine gm rfl rfl (by omega) (by rw[Nat.zero_add];exact hr) fun b2 cap hb2 iG=>?_
  rw[Nat.zero_add]at iG
  have hz:(List.replicate (cap -(0+l.length)) [.int .i64 0,.int .i64 0]).flatten=flat (List.replicate (cap -l.length) (al.mk 0 0:al)):=by rw[gu,Nat.zero_add];rfl
  rw[hz]
  simp -implicitDefEqProofs only[go_sem,seval,Nat.zero_add,List.nil_append]
  have acO:s b2=none:=((Sub.refl s).set hb1).none hb2
  refine hq _ _ _ (Sub.ais ((Sub.refl s).set hb1)) (.inl ⟨b2,cap,_,rfl,acO,by omega,iG,?_,?_,rfl⟩)
  ·rw[List.length_append,ao,ao,List.length_replicate]
   show l.length*2+(cap -l.length)*2=cap*2
   omega
  ·rw[tQ,aH,aH]
theorem O8{o:Bool}{l:List al}{s:ab}(hr:l.length*16<=room):FE prog 203 [.sl o 2 l.length (flat l)] s [.us 2 l.length (flat l)] s:=
 FN.Yd (ao l) ⟨rfl,rfl⟩ ((AA hr).mono fun rs s' h=>by
  rcases h with⟨b,cap,sp,h1,h2,h3,h4,h5,h6,h7⟩|⟨h1,h2,h3⟩
  ·exact .inl ⟨b,cap,sp,h1,by rw[h7];exact cq,h3,h4,h5,h6,by rw[h7,kj h2];exact Sub.refl s⟩
  ·subst h1;exact .inr ⟨rfl,rfl,by rw[h2];exact Sub.refl s,h3⟩)
def Cy:IC:=
 (ae [cZ 4 (.arr 0 0 0 0)] [0,1]
 (ae [mv 8 0,mv 9 1,c2 10 249 8 9,mv 5 10] [0,1,5]
 (.seq (ae [mv 11 5,bn 12 .eql 11 (-1)] [0,1,5,12]
 (.cond (.t 12) (ae [mv 13 0,mv 4 13] [4]
 .ret)
 .skip))
 (.seq (ae [mv 14 5,bn 15 .add 14 1,mv 6 15] [0,1,5,6]
 (.block 0 (.loop [(0,false),(1,false),(5,false),(6,false)] (.seq (ae [mv 16 6,mv 17 0,le 18 0 17,bt 19 .lss 16 18] [0,1,5,6,19]
 (.cond (.t 19) .skip
 (.exit 0)))
 (.seq (.block 1 (ae [mv 22 0,mv 23 6,ia 24 [.int .i64 0,.int .i64 0] 22 23,lm 25 2 24,i1 7 (.an [.int .i64 0,.int .i64 0]),st 2 7 25] [0,1,5,6,7]
 (ae [mv 26 1,lm 27 2 7,i1 28 (.cG (.t 26) [(.t 27)]),no 29 28] [0,1,5,6,7,29]
 (.cond (.t 29) (ae [mv 30 0,mv 31 5,lm 32 2 7,ia 33 [.int .i64 0,.int .i64 0] 30 31,st 2 33 32] [0,1,5,6]
 (.bJ none [mv 34 5,bn 35 .add 34 1,mv 5 35] [0,1,5,6]))
 .skip))))
 (.bJ none [mv 20 6,bn 21 .add 20 1,mv 6 21] [0,1,5,6]))))))
 (ae [mv 36 0,mv 37 5,rG 38 2 36 37,i0 (.mS [.int .i64 0,.int .i64 0] (.t 38))] [0,5]
 (ae [mv 39 0,mv 40 5,OP 41 2 39 40,mv 4 41] [4]
 .ret))))))
theorem Lm:aE prog 211 42 [⟨4,true,none⟩] Cy=true:=by kernel_rfl
end Go.AB
end
section
set_option maxRecDepth 4000
namespace Go.AB
open Go
open Go.Proofs.Tryz (prog)
theorem GB{T:Type}[aP T]{w:World}{R R':Nat->Nat}{b cap f:Nat}{l:List T}{vs:Array Value}(mono:∀a u,VR w R a u->VR w R' a u)(hv:∀u,VR w R (.arr b 0 l.length cap) u->VR w R' (sF 2 l) u)
 (ha:mE w R [.arr b 0 l.length cap,.fn f [] []] vs):mE w R' [sF 2 l,.fn f [] []] vs:=by
 refine⟨ha.1,fun j a v hj hvs=>?_⟩
 match j,hj with
 |0,hj=>cases hj;exact hv v (ha.2 0 _ v rfl hvs)
 |1,hj=>cases hj;exact mono _ _ (ha.2 1 _ v rfl hvs)
theorem yf{b cap:Nat}{l:List al}{sp:List AV}{r:Int}{s:ab}{Q:List AV->ab->Prop}(hs:s b=some (.cells (flat l++sp)))(hn:l.length<=cap)(h:aX l=some r)(hq:Q [.int .i64 r] s):
 FN prog 249 [.arr b 0 l.length cap,.fn 175 [] []] s Q:=by
 refine FN.borrow b (l.length*2) (DD:=[sF 2 l,.fn 175 [] []]) (FE.app (fE h) ⟨rfl,hq⟩) fun G w vs hst ha=>?_
 refine GB (fun a u h=>h.mono (fun i=>?_) fun _ _ _=>rfl) (fun u hu=>FR hst (ao l) hn (aH l) (fun _=>⟨sp,hs⟩) hu (by decide)) ha
 show G.R i<=if i=b/\b<w.heap.size then l.length*2 else G.R i
 split
 ·rename_i e
  obtain⟨q2,q3,_⟩:=hst b _ hs
  rw[e.1,q3];exact Nat.zero_le _
 ·exact Nat.le_refl _
theorem VN{w:World}{R:Nat->Nat}{b off sz:Nat}{v:Value}(hv:VR w R (.arr b off 0 0) v):VR w R (.sl false sz 0 []) v:=by
 rcases VR.cj hv with e|⟨_,_,e⟩
 ·rw[e];exact .sle sz _ _
 ·rw[e];exact .slnil false sz
theorem Js{b off:Nat}{r:Int}{s:ab}{Q:List AV->ab->Prop}(h:aX []=some r)(hq:Q [.int .i64 r] s):
 FN prog 249 [.arr b off 0 0,.fn 175 [] []] s Q:=
 FN.args (FE.app (fE h) hq) fun G w vs _ ha=>⟨ha.1,fun j a v hj hv=>by
  match j,hj with
  |0,hj=>cases hj;exact VN (ha.2 0 _ v rfl hv)
  |1,hj=>cases hj;exact ha.2 1 _ v rfl hv⟩
theorem LS{s:ab}{b:Nat}{o:SO}(h:s b=some o):s.set b o=s:=by
 funext c
 unfold ab.set
 split
 ·rename_i e;subst e;rw[h]
 ·rfl
def Ei(x:al):Bool:=(decide (x.b6<0))||(decide (x.To<=x.b6))
theorem aec(x:al)(s:ab):FE prog 175 [.agg [.int .i64 x.b6,.int .i64 x.To]] s [.bool (Ei x)] s:=rK rfl
theorem RD{b cap i:Nat}{l:List al}{sp:List AV}{s:ab}{Q:List AV->ab->Prop}(hs:s b=some (.cells (flat l++sp)))(hl:(flat l++sp).length=cap*2)(hn:l.length<=cap)(WE:(l.length:Int)<=9223372036854775807)
 (Cu:aX l=some (i:Int))(hi:i<l.length)(hk:(l.take (i+1)).filter (fun x=>!Ei x)=l.take i)
 (hq:∀sp',(flat (l.filter (fun x=>!Ei x))++sp').length=cap*2->Q [.arr b 0 (l.filter (fun x=>!Ei x)).length cap] (s.set b (.cells (flat (l.filter (fun x=>!Ei x))++sp')))):
 FN prog 211 [.arr b 0 l.length cap,.fn 175 [] []] s Q:=by
 refine FO Lm rfl rfl ?_
 rw[Cy]
 simp -implicitDefEqProofs only[go_sem,seval]
 refine yf hs hn Cu ?_
 simp -implicitDefEqProofs only[go_sem,seval]
 have e1:(((i:Int))==-1)=false:=by rw[beq_eq_false_iff_ne];omega
 rw[e1]
 refine⟨fun h=>(by cases h),fun _=>?_⟩
 have w1:bd ((i:Int)+1)=((i+1:Nat):Int):=by rw[aI (by omega) (by omega)];omega
 rw[w1]
 refine⟨fun U=>∃(a j:Nat)(l':List al),U=⟨[(0,.arr b 0 l.length cap),(1,.fn 175 [] []),(5,.int .i64 (a:Int)),(6,.int .i64 (j:Int))],[],s.set b (.cells (flat l'++sp))⟩/\l'.length=l.length/\a<j/\j<=l.length/\l'.take a=(l.take j).filter (fun x=>!Ei x)/\l'.drop j=l.drop j/\a=((l.take j).filter (fun x=>!Ei x)).length,
  fun U=>match look U.e 6 with|.int _ j=>l.length -j.toNat|_=>0,?_,?_⟩
 ·refine⟨i,i+1,l,?_,rfl,by omega,by omega,hk.symm,rfl,?_⟩
  ·rw[LS hs];rfl
  ·rw[hk];simp;omega
 ·rintro U ⟨a,j,l',rfl,h1,h2,h3,h4,h5,h6⟩
  have hlen:(flat l'++sp).length=cap*2:=by rw[<-hl,List.length_append,List.length_append,ao,ao,h1]
  simp -implicitDefEqProofs only[go_sem,seval,cq]
  refine⟨fun hj=>⟨⟨by omega,of_decide_eq_true hj⟩,?_⟩,fun hj=>⟨by omega,?_⟩⟩
  ·have hj:=of_decide_eq_true hj
   have hj':j<l.length:=by omega
   have hx:∃x,l.drop j=x::l.drop (j+1)/\(l.take (j+1)).filter (fun x=>!Ei x)=(l.take j).filter (fun x=>!Ei x)++(if Ei x then[]else[x]):=by
    refine⟨l[j],List.drop_eq_getElem_cons hj',?_⟩
    rw[List.take_succ_eq_append_getElem hj',List.filter_append]
    cases hg:Ei l[j]<;>simp[hg]
   obtain⟨x,hx1,hx2⟩:=hx
   have hd:decide (j*2+2<=(flat l').length+sp.length)=true:=decide_eq_true (by rw[ao,h1];show j*2+2<=l.length*2+_;omega)
   have hv:views (AB.sub (flat l'++sp) (j*2) 2)=[.int .i64 x.b6,.int .i64 x.To]:=by
    have:=gP l' sp 2 j 1 rfl (by omega)
    rw[Nat.one_mul]at this
    rw[this,h5,hx1];rfl
   rw[hd,hv]
   simp -implicitDefEqProofs only[go_sem,seval]
   refine⟨(by kernel_rfl),FE.app (aec x _) ?_⟩
   have w2:bd ((j:Int)+1)=((j+1:Nat):Int):=by rw[aI (by omega) (by omega)];omega
   have w3:bd ((a:Int)+1)=((a+1:Nat):Int):=by rw[aI (by omega) (by omega)];omega
   simp -implicitDefEqProofs only[go_sem,seval,cq,w2,w3]
   have st:=gO l' [x] sp 2 a rfl (by simp;omega)
   have d1:l'.drop (j+1)=l.drop (j+1):=by rw[<-List.drop_drop,<-List.drop_drop,h5]
   have ht:(l'.take a++[x]).length=a+1:=by simp;omega
   refine⟨fun hg=>⟨⟨by omega,by omega⟩,by rw[ao,h1];show a*2+2<=l.length*2+_;omega,⟨a+1,j+1,l'.take a++[x]++l'.drop (a+1),?_,?_,by omega,by omega,?_,?_,?_⟩,by omega⟩,
    fun hg=>⟨⟨a,j+1,l',rfl,h1,by omega,by omega,?_,d1,?_⟩,by omega⟩⟩
   ·rw[show setAt (flat l'++sp) (a*2) [AV.int .i64 x.b6,AV.int .i64 x.To]=_ from st];rfl
   ·rw[List.length_append,ht,List.length_drop];omega
   ·rw[List.take_append_of_le_length (by omega),List.take_of_length_le (by omega),hx2,h4]
    have:Ei x=false:=by cases h:Ei x<;>simp_all
    simp[this]
   ·rw[List.drop_append,List.drop_of_length_le (by omega),List.nil_append,ht,List.drop_drop,show a+1+(j+1 -(a+1))=j+1 by omega,d1]
   ·have:Ei x=false:=by cases h:Ei x<;>simp_all
    rw[hx2,List.length_append,<-h6,this];rfl
   ·have:Ei x=true:=by cases h:Ei x<;>simp_all
    rw[h4,hx2,this];simp
   ·have:Ei x=true:=by cases h:Ei x<;>simp_all
    rw[hx2,this,h6];simp
  ·have hj:=of_decide_eq_false hj
   obtain rfl:j=l.length:=by omega
   rw[fO (by omega)]
   have hsp:(flat l'++sp).length=cap*2:=by omega
   refine zm rfl cq (by
    rw[hsp]
    show 0+a*2+(l.length -a)*2<=cap*2
    omega) ?_
   have hz:(List.replicate (l.length -a) [AV.int .i64 0,AV.int .i64 0]).flatten=flat (List.replicate (l.length -a) (al.mk 0 0)):=by rw[gu];rfl
   have st:=gO l' (List.replicate (l.length -a) (al.mk 0 0)) sp 2 a rfl (by simp;omega)
   have e3:l'.drop (a+(List.replicate (l.length -a) (al.mk 0 0)).length)=[]:=by rw[List.drop_eq_nil_iff];simp;omega
   rw[e3,List.append_nil,h4,List.take_length,cg,List.append_assoc]at st
   rw[List.take_length]at h6
   rw[Nat.zero_add,hz,st]
   generalize hF:l.filter (fun x=>!Ei x)=F at hq h6
   have hq':=hq (flat (List.replicate (l.length -a) (al.mk 0 0))++sp) (by
    rw[List.length_append,List.length_append,ao,ao,List.length_replicate,<-h6]
    rw[List.length_append,ao,h1]at hsp
    have q1:aP.w al=2:=rfl
    rw[q1]at hsp⊢
    omega)
   rw[<-h6]at hq'
   generalize flat (List.replicate (l.length -a) (al.mk 0 0))++sp=sp' at hq'
   simp -implicitDefEqProofs only[go_sem,seval]
   exact⟨by omega,hq'⟩
theorem DH{b off n cap:Nat}{s:ab}{Q:List AV->ab->Prop}(hx:∀Q:List AV->ab->Prop,Q [.int .i64 (-1)] s->FN prog 249 [.arr b off n cap,.fn 175 [] []] s Q)(hq:Q [.arr b off n cap] s):
 FN prog 211 [.arr b off n cap,.fn 175 [] []] s Q:=by
 refine FO Lm rfl rfl ?_
 rw[Cy]
 simp -implicitDefEqProofs only[go_sem,seval]
 refine hx _ ?_
 simp -implicitDefEqProofs only[go_sem,seval]
 exact⟨fun _=>hq,fun h=>(by cases h)⟩
theorem Le(l:List al)(hb:l.length<4611686018427387904):
 aX l=some (match l.findIdx? Ei with|some i=>(i:Int)|none=>-1):=by
 unfold aX
 have step:∀k(hk:k<l.length),lf (ix l (k:Int))=some (Ei l[k]):=fun k hk=>by
  have e:ix l (k:Int)=l[k]:=oP (i:=(k:Int)) hk
  rw[e];rfl
 cases h:l.findIdx? Ei with
 |none=>
  rw[List.findIdx?_eq_none_iff]at h
  refine en (z:=.inl ()) (dK (z:=.inl ()) (eO l.length hb (fun k hk=>?_) ?_) rfl) rfl
  ·refine aL (decide_eq_true (by omega)) (au ⟨by omega,by omega⟩ (aw (step k hk) ?_))
   rw[h _ (List.getElem_mem hk)];rfl
  ·exact az (by simp) rfl
 |some i=>
  rw[List.findIdx?_eq_some_iff_getElem]at h
  obtain⟨hi,h1,h2⟩:=h
  refine en (z:=.inr (i:Int)) (dK (z:=.inr (i:Int)) (eO i (by omega) (fun k hk=>?_) ?_) rfl) rfl
  ·refine aL (decide_eq_true (by omega)) (au ⟨by omega,by omega⟩ (aw (step k (by omega)) ?_))
   have:=h2 k hk
   rw[Bool.not_eq_true]at this
   rw[this];rfl
  ·refine aL (decide_eq_true (by omega)) (au ⟨by omega,by omega⟩ (aw (step i hi) ?_))
   rw[h1];rfl
def full(l:List al):List al:=l.filter fun x=>!Ei x
theorem RF{l:List al}{s:ab}{Q:List AV->ab->Prop}(hb:l.length*16<=room){b cap:Nat}{sp:List AV}(hs:s b=some (.cells (flat l++sp)))(hn:l.length<=cap)(hl:(flat l++sp).length=cap*2)
 (hq:∀sp',(flat (full l)++sp').length=cap*2->Q [.arr b 0 (full l).length cap] (s.set b (.cells (flat (full l)++sp')))):FN prog 211 [.arr b 0 l.length cap,.fn 175 [] []] s Q:=by
 have hb':l.length<4611686018427387904:=by unfold room at hb;omega
 have Cu:=Le l hb'
 cases h:l.findIdx? Ei with
 |none=>
  rw[h]at Cu
  have eH:full l=l:=by
   rw[List.findIdx?_eq_none_iff]at h
   exact List.filter_eq_self.2 fun x hx=>by simp[h x hx]
  rw[eH]at hq
  refine DH (fun Q' hq'=>yf hs hn Cu hq') ?_
  have:=hq sp hl
  rwa[LS hs]at this
 |some i=>
  rw[h]at Cu
  rw[List.findIdx?_eq_some_iff_getElem]at h
  obtain⟨hi,h1,h2⟩:=h
  refine RD hs hl hn (by omega) Cu hi ?_ hq
  rw[List.take_succ_eq_append_getElem hi,List.filter_append]
  have e1:(l.take i).filter (fun x=>!Ei x)=l.take i:=by
   refine List.filter_eq_self.2 fun x hx=>?_
   obtain⟨k,hk,rfl⟩:=List.getElem_of_mem hx
   rw[List.length_take]at hk
   rw[List.getElem_take]
   have:=h2 k (by omega)
   simpa using this
  rw[e1]
  simp[h1]
theorem RE{b off:Nat}{s:ab}{Q:List AV->ab->Prop}(hq:Q [.arr b off 0 0] s):FN prog 211 [.arr b off 0 0,.fn 175 [] []] s Q:=DH (fun Q' hq'=>Js (r:=-1) (Le [] (by decide)) hq') hq
end Go.AB
end
section
namespace Go.AB
open Go
def Form(l:List al):Prop:=(∀x∈l,0<=x.b6/\x.b6<x.To)/\l.Pairwise fun x y=>x.To<y.b6
theorem Form.tail{x:al}{l:List al}(h:Form (x::l)):Form l:=⟨fun y hy=>h.1 y (List.mem_cons_of_mem _ hy),(List.pairwise_cons.1 h.2).2⟩
def fT(gap:Int)(out:List al)(x:al):List al:=match out.getLast? with
 |none=>[x]
 |some y=>if bd (x.b6 -y.To)<=gap then out.dropLast++[⟨y.b6,max y.To x.To⟩]else out++[x]
def Xe(gap:Int)(l:List al):List al:=l.foldl (fT gap) []
def leS(x y:al):Prop:=x.b6<y.b6\/(x.b6=y.b6/\x.To<=y.To)
def Asc(l:List al):Prop:=l.Pairwise leS
theorem J3(gap:Int)(O:List al)(y x:al):fT gap (O++[y]) x=if bd (x.b6 -y.To)<=gap then O++[⟨y.b6,max y.To x.To⟩]else O++[y]++[x]:=by
 unfold fT
 rw[List.getLast?_append]
 simp
end Go.AB
end
section
namespace Go.AB
open Go Go.Sort Go.Proofs Go.Shelf
def Cm(a b:Int):Int:=if a<b then -1 else if b<a then 1 else 0
def Y5(x y:al):Int:=if Cm x.b6 y.b6≠0 then Cm x.b6 y.b6 else Cm x.To y.To
theorem Ge(a b:Int):bV a b=some (Cm a b):=by
 have e:∀x:Int,eX x=some false:=fun x=>by unfold eX;simp
 unfold bV
 refine aw (e a) (aw (e b) (az (by decide) (az (by decide) ?_)))
 unfold Cm
 by_cases h1:a<b
 ·rw[if_pos h1];exact aL (decide_eq_true h1) rfl
 ·rw[if_neg h1]
  refine az (by simpa using h1) ?_
  by_cases h2:b<a
  ·rw[if_pos h2];exact aL (decide_eq_true h2) rfl
  ·rw[if_neg h2];exact az (by simpa using h2) rfl
theorem Ug(x y:al):qX x y=some (Y5 x y):=by
 refine aw (Ge _ _) (aw (Ge _ _) (aw (a:=Y5 x y) ?_ rfl))
 generalize ha:Cm x.b6 y.b6=a
 generalize hb:Cm x.To y.To=b
 unfold gh Y5
 rw[ha,hb]
 by_cases h1:a=0
 ·rw[if_neg (by simpa using h1)]
  by_cases h2:b=0
  ·subst h1;subst h2
   refine en (z:=.inl ()) (dK (z:=.inl ()) (eO 2 (by decide) (fun k hk=>?_) (az (by simp) rfl)) rfl) rfl
   match k,hk with
   |0,_=>exact aL (by simp) (au (by simp) (az (by simp[ix]) rfl))
   |1,_=>exact aL (by simp) (au (by simp) (az (by simp[ix]) rfl))
  ·subst h1
   refine en (z:=.inr b) (dK (z:=.inr b) (eO 1 (by decide) (fun k hk=>?_) ?_) rfl) rfl
   ·match k,hk with
    |0,_=>exact aL (by simp) (au (by simp) (az (by simp[ix]) rfl))
   ·exact aL (by simp) (au (by simp) (aL (by simp[ix,h2]) (by simp[ix])))
 ·rw[if_pos h1]
  refine en (z:=.inr a) (dK (z:=.inr a) (eO 0 (by decide) (fun k hk=>by omega) ?_) rfl) rfl
  exact aL (by simp) (au (by simp) (aL (by simp[ix,h1]) (by simp[ix])))
theorem Tj{a b:Int}(h:a<b):Cm a b=-1:=by unfold Cm;rw[if_pos h]
theorem Ti{a b:Int}(h:b<a):Cm a b=1:=by unfold Cm;rw[if_neg (by omega),if_pos h]
theorem Th(a:Int):Cm a a=0:=by unfold Cm;rw[if_neg (by omega),if_neg (by omega)]
theorem Nc(x y:al):ltOf Y5 x y=decide (x.b6<y.b6\/(x.b6=y.b6/\x.To<y.To)):=by
 unfold ltOf
 congr 1
 rw[eq_iff_iff]
 unfold Y5
 rcases Int.lt_trichotomy x.b6 y.b6 with h|h|h
 ·rw[Tj h];simp;exact .inl h
 ·rw[h,Th]
  rcases Int.lt_trichotomy x.To y.To with k|k|k
  ·rw[Tj k];simp;exact k
  ·rw[k,Th];simp
  ·rw[Ti k];simp;omega
 ·rw[Ti h];simp;omega
theorem aiw:SWO (ltOf Y5)where
 irrefl x:=by rw[Nc];simp
 trans x y z h1 h2:=by rw[Nc]at*;simp at*;omega
 ntrans x y z h1 h2:=by rw[Nc]at*;simp at*;omega
def RO(x:al):List Value:=[.int .i64 x.b6,.int .i64 x.To]
instance:Inhabited al:=⟨⟨0,0⟩⟩
theorem aiN(w:World)(R:Nat->Nat)(x:al)(j:Nat)(c:AV)(v:Value)(hc:(aP.cells x)[j]? =some c)(hv:(RO x)[j]? =some v):VR w R c v:=by
 match j,hc,hv with
 |0,hc,hv=>cases hc;cases hv;exact .int _ _
 |1,hc,hv=>cases hc;cases hv;exact .int _ _
theorem ags(w:World)(R:Nat->Nat)(x:al)(vs:List Value)(hl:vs.length=2)(h:∀(j:Nat)(c:AV)(v:Value),(aP.cells x)[j]? =some c->vs[j]? =some v->VR w R c v):vs=RO x:=by
 match vs,hl with
 |[a,b],_=>
  have h0:=VR.cF (h 0 _ a rfl rfl)
  have h1:=VR.cF (h 1 _ b rfl rfl)
  rw[h0,h1];rfl
theorem ac9(xi off size:Nat)(w:World):CmpLays Tryz.prog 213 #[] RO 2 Y5 xi off size w:=
 Sb (fun x y=>IL (Ug x y)) (fun w R x=>.agg _ _ (fun c hc=>by
  rcases List.mem_cons.1 hc with rfl|hc
  ·rfl
  ·rcases List.mem_cons.1 hc with rfl|hc
   ·rfl
   ·cases hc) rfl fun j c v hc hv=>aiN w R x j c v hc (by simpa using hv)) xi off size w
theorem SR(xi off cap:Nat)(d:Array al)(w:World)(hH:HoldsK RO 2 w xi off d)(hblk:xi<w.heap.size)(hsz:d.size<4611686018427387904):
 Calls Tryz.prog 212 #[.slice (some ⟨xi,off,none⟩) d.size cap,.func (.func 213) #[] #[]] w fun e w'=>e=.returned (.tuple #[])/\∃d' n os,PermIn 0 d.size d d'/\SortedIn (ltOf Y5) 0 d.size d'/\w'=sortWorldK RO 2 w xi off n d' os:=by
 have eg:∀args w,(callFunc 213 args).run Tryz.prog w=.ok (.enter 213 args) w:=enters_of Tryz.func213 (by kernel_rfl) rfl
 exact AnyQ.slices_SortFunc Tryz.TY 2 Tryz.isAgg188 Tryz.sizeOf188 RO (fun _=>rfl) (fun x v hv=>by simp[RO]at hv;rcases hv with rfl|rfl<;>rfl) Y5 aiw 213 #[] xi off cap d w eg (ac9 xi off d.size w) hH hblk hsz
theorem QR{b cap:Nat}{l:List al}{sp:List AV}{s:ab}{Q:List AV->ab->Prop}(hs:s b=some (.cells (flat l++sp)))(hc:0<cap)(hb:l.length<4611686018427387904)
 (hq:∀l':List al,l'.Perm l->Asc l'->Q [] (s.set b (.cells (flat l'++sp)))):FN Tryz.prog 212 [.arr b 0 l.length cap,.fn 213 [] []] s Q:=
 aax rfl (fun _=>rfl) ags aiN SR hs hc hb fun l' h1 h2=>hq l' h1 (h2.imp fun{x y} h=>by
  rw[Nc]at h
  unfold leS
  simp at h
  omega)
end Go.AB
end
