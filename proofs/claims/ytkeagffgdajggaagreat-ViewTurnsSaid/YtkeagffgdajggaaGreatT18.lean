/- A part of the proof: Px, Py, Fr, Rg0, Rg1, Spm. -/
import Derived.Test.YtkeagffgdajggaaGreatT14
import Derived.Test.YtkeagffgdajggaaGreatT16
import Derived.Test.YtkeagffgdajggaaGreatT13
import Derived.Test.YtkeagffgdajggaaGreatT12
set_option linter.unusedSimpArgs false
set_option linter.unusedVariables false
section
set_option maxRecDepth 4000
namespace Go.AB
open Go
attribute[-go_sem] Nat.add_zero lf bC bU cN bw bT
def Nn:IC:=
 (ae [i1 2 (.mP 1 (.t 0)),i1 3 (.mP 1 (.t 1)),cV 4 (.mU)] [2,3]
 (.seq (ae [ld 5 1 3,bn 6 .lss 5 1] [2,3,6]
 (.cond (.t 6) .dead
 .skip))
 (ae [i1 8 (.jr 262 [] [(.t 2),(.t 3)]),mv 4 8] [4]
 .ret)))
def Kk:List ay:=[⟨4,true,none⟩]
theorem TM:aC Go.Proofs.Tryz.prog 222 9 Kk Nn=true:=by kernel_rfl
def E6:IC:=
 (.bD none [cV 2 (.arr 0 0 0 0),mi 3 0] [0])
def E7:IC:=(.bD none [i1 4 (.fJ [.arr 0 0 0 0])] [0,4])
def E8:IC:=
 (.bD none [mv 7 0,i1 8 (.call 222 [(.t 7),(.c (.int .i64 2))])] [4,8])
def yI:IC:=
 (ae [ld 14 1 4,i1 15 (.call 223 [(.t 14),(.c (.fn 224 [] []))])] [4]
 (.seq (ae [mi 6 1] [4,6]
 (.block 2 (.loop [(4,false),(6,false)] (.seq (ae [mv 16 6,ld 17 1 4,le 18 0 17,bt 19 .lss 16 18] [4,6,19]
 (.cond (.t 19) .skip
 (.exit 2)))
 (.seq (.block 3 (.seq (.bD (some 16) [ld 22 1 4,mv 23 6,ia 24 [.sl false 4 0 []] 22 23,ld 25 1 24,i1 26 (.indexAddr oG (.t 25) (.c (.int .i64 0))),fa 27 2 26,ld 28 1 27,ld 29 1 4,mv 30 6,bn 31 .sub 30 1,ia 32 [.sl false 4 0 []] 29 31,ld 33 1 32,i1 34 (.indexAddr oG (.t 33) (.c (.int .i64 0))),fa 35 2 34,ld 36 1 35,bt 37 .eql 28 36] [4,6,37])
 (.cond (.t 37) (ae [cV 2 (.sl true 4 0 []),mi 3 16] [2,3]
 .ret)
 .skip)))
 (.bD none [mv 20 6,bn 21 .add 20 1,mv 6 21] [4,6]))))))
 (ae [ld 38 1 4,c1 39 226 38,i1 2 (.RP 4 true (.t 39)),mi 3 0] [2,3]
 .ret)))
def yJ:IC:=
 (.block 1 (.bD none [ld 10 1 4,mv 11 5,i1 12 (.aY 1 1 [.sl false 4 0 []] [(0,1,(.t 11))]),i1 13 (.ee 1 24 [.sl false 4 0 []] (.t 10) (.t 12)),st 1 4 13] []))
def ni:List ay:=[⟨2,false,none⟩,⟨3,true,none⟩]
abbrev DR(l:List aa):AV:=.sl false 4 l.length (flat l)
theorem Td{s:ab}{l:List aa}{Q:List AV→ab→Prop}(hq:∀Bs,s Bs=none→∀Bn,(s.set Bs (.cells [DR l])) Bn=none→Q [.fn 262 [] [.ref Bs 0,.ref Bn 0]] ((s.set Bs (.cells [DR l])).set Bn (.cells [.int .i64 2]))):FN Go.Proofs.Tryz.prog 222 [DR l,.int .i64 2] s Q:=by
 refine FN.of (af mix) TM rfl (Nat.le_of_ble_eq_true rfl) ?_
 rw[Nn,Kk]
 have h0:decide ((2:Int)<1)=false:=rfl
 simp -implicitDefEqProofs only[go_sem,seval]
 intro Bs h1 Bn h2
 simp -implicitDefEqProofs only[go_sem,seval,h0,Bool.true_eq_false,Bool.false_eq_true,false_implies,true_implies,true_and,and_true]
 exact hq Bs h1 Bn h2
def cA:Code→Code
 |.seq a _=>a
 |c=>c
def cB:Code→Code
 |.seq _ b=>b
 |c=>c
def rfA:Code→Code
 |.rangeFunc _ _ a _=>a
 |c=>c
def rfB:Code→Code
 |.rangeFunc _ _ _ b=>b
 |c=>c
def cIn:Code→Code
 |.block _ c=>c
 |c=>c
def Z9:Code→Array Oper
 |.region _ ops _=>ops
 |_=> #[]
def TG:IC→List ah
 |.block _ (.bD _ l _)=>l
 |_=>[]
noncomputable def F5:Code:=(Go.Proofs.Tryz.f182.body).getD .skip
noncomputable def pC1:Code:=cA F5
noncomputable def pC2:Code:=cA (cB F5)
noncomputable def pC3:Code:=cA (cA (cB (cB F5)))
noncomputable def pRf:Code:=cIn (cB (cA (cB (cB F5))))
noncomputable def pC4:Code:=cB (cB (cB F5))
noncomputable def V4:Array Oper:=Z9 (cIn (rfB pRf))
theorem PV:Go.Proofs.Tryz.f182.body=some (.seq pC1 (.seq pC2 (.seq (.seq pC3 (.block 0 (.rangeFunc (.tmp 8) #[9] (rfA pRf) (rfB pRf)))) pC4))):=by kernel_rfl
theorem Yy:rfB pRf=.block 1 (.region 4 V4 false):=by kernel_rfl
theorem ab3:rfA pRf=.region 3 #[{dst:=some 5,op:=.assign (.tmp 9),type:=30,pos:= "parse.go:116",after:= #[],guard:=none}] false:=by kernel_rfl
theorem PW:kH Go.Proofs.Tryz.prog 40 pC1 E6=true:=by kernel_rfl
theorem PX:kH Go.Proofs.Tryz.prog 40 pC2 E7=true:=by kernel_rfl
theorem PY:kH Go.Proofs.Tryz.prog 40 pC3 E8=true:=by kernel_rfl
theorem PZ:kH Go.Proofs.Tryz.prog 40 pC4 yI=true:=by kernel_rfl
theorem P0:bN Go.Proofs.Tryz.prog 40 V4 V4.toList (TG yJ)=true:=by kernel_rfl
theorem N4:V4.toList.all Aq=true:=by kernel_rfl
theorem R8:iW Go.Proofs.Tryz.prog Go.Proofs.Tryz.f182.results.toList ni=true:=by kernel_rfl
theorem T8:Go.Proofs.Tryz.f182.ntmps=40:=by kernel_rfl
def iL(l:List aa)(k:Nat):List aa:=(l.drop (2*k)).take 2
def gi(l:List aa)(k:Nat):List VL:=(List.range k).map (iL l)
theorem zB(l:List aa)(k:Nat):gi l (k+1)=gi l k++[iL l k]:=by unfold gi;rw[List.range_succ,List.map_append];rfl
theorem Cv(l:List aa)(k:Nat):(gi l k).length=k:=by simp[gi]
theorem yA(l:List aa)(k:Nat)(h:2*k+2≤l.length):(iL l k).length=2:=by unfold iL;rw[List.length_take,List.length_drop];omega
theorem Te{w:World}{R:Nat→Nat}{l:List aa}{b off k:Nat}(hR:off+(flat l).length≤R b)(ha:At w R b off (flat l))(hk:2*k+2≤l.length):VR w R (DR (iL l k)) (eu b off k):=by
 obtain⟨u,h1,h2,h3⟩:=ha
 have hs:=j6 l 4 (2*k) 2 rfl
 have hl:(flat (iL l k)).length=2*4:=by rw[ao,yA l k hk];rfl
 have hfl:(flat l).length=l.length*4:=ao l
 have hg:∀(j:Nat)(c:AV),(flat (iL l k))[j]? =some c→(flat l)[2*k*4+j]? =some c:=fun j c hj=>by
  unfold iL at hj
  rw[←hs,AS]at hj
  split at hj
  ·exact hj
  ·cases hj
 unfold DR eu
 rw[yA l k hk]
 refine .sl false 4 2 _ b _ 2 (fun j=>u (2*k*4+j)) (fun c hc=>?_) hl (by omega) (Nat.le_refl _) (fun j c hj=>?_) (fun j c hj=>h2 _ c (hg j c hj))
 ·obtain⟨j,hj⟩:=List.mem_iff_getElem?.1 hc
  exact h3 c (List.mem_of_getElem? (hg j c hj))
 ·rw[Nat.add_assoc];exact h1 _ c (hg j c hj)
def nbB(ls:List VL)(i:Int):Option (Int⊕Bool):=
 bif decide (i<ls.length)then aK (1≤i∧i<2^62∧0<(ix ls i).length∧0<(ix ls (i -1)).length)<|
  bif(ix (ix ls i) 0).S.b==(ix (ix ls (i -1)) 0).S.b then some (.inr true)else some (.inl (i+1))
 else some (.inr false)
def BO(l:List aa):Option (List aa×Int):=
 aK (0<l.length∧l.length<40∧l.length % 2=0)<|aP (RR (gi l (l.length/2)) 0 ((l.length/2:Nat):Int)) fun two=>
 aK ((two.all fun c=>decide (0<c.length))=true∧two.length=l.length/2∧two.flatten.length<1000)<|aP (iter (nbB two) 1) fun d=>
 bif d then some ([],16)else some (two.flatten,0)
theorem Uz{s:ab}{r:cG}{ls:List VL}{B:Nat}{o o':SO}(h:fI s r ls)(hB:s B=some o):(fC s r ls).set B o'=fC (s.set B o') r ls∧fI (s.set B o') r ls:=by
 cases r with
 |none=>exact⟨rfl,h⟩
 |some x=>
  obtain⟨rb,cap,sp⟩:=x
  obtain⟨h1,h2⟩:=h
  have hne:B≠rb:=fun e=>by subst e;rw[h1]at hB;cases hB
  refine⟨set_comm hne,⟨by rw[ai hne.symm];exact h1,h2⟩⟩
theorem P1{s s1:ab}{B2 rb cap:Nat}{sp:List AV}{ls:List VL}{own:Bool}{Q:List AV→ab→Prop}(hB:s1 B2=some (.cells [.arr rb 0 ls.length cap]))(hrb:s1 rb=none)(hs:Sub s s1)(hl:ls.length<20)(hl0:0<ls.length)
 (hm:ok (RR ls 0 ls.length) fun two=>(∀c∈two,0<c.length)∧two.length=ls.length∧two.flatten.length<1000∧ok (iter (nbB two) 1) fun d=>(d=true→∀s',Sub s s'→Q [.sl false 4 0 [],.int .i64 16] s')∧(d=false→∀s',Sub s s'→Q [.sl false 4 two.flatten.length (flat two.flatten),.int .i64 0] s')):
 gK Go.Proofs.Tryz.prog yI (cT ni Q) ⟨[(4,.ref B2 0)],[],s1.set rb (.cells (flat ls++sp))⟩:=by
 have hroom:room=140737488355328:=rfl
 have hne:B2≠rb:=fun e=>by subst e;rw[hrb]at hB;cases hB
 have hB':∀cs,(s1.set rb (.cells cs)) B2=some (.cells [.arr rb 0 ls.length cap]):=fun cs=>by rw[ai hne];exact hB
 rw[yI,ni]
 simp -implicitDefEqProofs only[go_sem,start,aI,aV,ct,cX,cK,cT,Nat.reduceBEq,Nat.reduceAdd,Nat.reduceMul,Nat.reduceLeDiff,Nat.reduceEqDiff,Nat.reduceBNe,Nat.ble_eq,UInt8.reduceToNat,UInt32.reduceToNat,hB']
 refine Sw hrb hl (cq hm fun two⟨hpos,hlen,hfl,hn⟩=>?_)
 rw[←hlen]
 rw[←hlen]at hB' hl hl0
 simp -implicitDefEqProofs only[go_sem,start,aI,aV,ct,cX,cK,cT,Nat.reduceBEq,Nat.reduceAdd,Nat.reduceMul,Nat.reduceLeDiff,Nat.reduceEqDiff,Nat.reduceBNe,Nat.ble_eq,UInt8.reduceToNat,UInt32.reduceToNat]
 refine bf (fun(i:Int)=>(⟨[(4,.ref B2 0),(6,.int .i64 i)],[],s1.set rb (.cells (flat two++sp))⟩:St)) rfl ?_ hn
 ·intro J i hb
  unfold nbB at hb
  cases hlt:decide (i<two.length)with
  |false=>
   rw[hlt,cond_false,az]at hb
   simp -implicitDefEqProofs only[go_sem,start,aI,aV,ct,cX,cK,cT,Nat.reduceBEq,Nat.reduceAdd,Nat.reduceMul,Nat.reduceLeDiff,Nat.reduceEqDiff,Nat.reduceBNe,Nat.ble_eq,UInt8.reduceToNat,UInt32.reduceToNat,hB',hlt,Bool.true_eq_false,Bool.false_eq_true,false_implies,true_implies,true_and,and_true]
   simp only[lC]at hb
   refine Rx hrb hpos (by omega) (by omega) fun s' r' hs' hr'=>?_
   simp -implicitDefEqProofs only[go_sem,start,aI,aV,ct,cX,cK,cT,Nat.reduceBEq,Nat.reduceAdd,Nat.reduceMul,Nat.reduceLeDiff,Nat.reduceEqDiff,Nat.reduceBNe,Nat.ble_eq,UInt8.reduceToNat,UInt32.reduceToNat]
   refine zI rfl hr' rfl ?_
   simp -implicitDefEqProofs only[go_sem,start,aI,aV,ct,cX,cK,cT,Nat.reduceBEq,Nat.reduceAdd,Nat.reduceMul,Nat.reduceLeDiff,Nat.reduceEqDiff,Nat.reduceBNe,Nat.ble_eq,UInt8.reduceToNat,UInt32.reduceToNat]
   exact hb.2 trivial s' fun b o h=>hs' b o ((hs.set hrb) b o h)
  |true=>
   rw[hlt,cond_true,df]at hb
   obtain⟨⟨h1,h2,h3,h4⟩,hb⟩:=hb
   have hi:i<two.length:=by simpa using hlt
   obtain⟨r1,r2⟩:=IQ two sp (j:=i) (by omega) hi
   obtain⟨r3,r4⟩:=IQ two sp (j:=i -1) (by omega) (by omega)
   have w1:bz (i -1)=i -1:=aS (by omega) (by omega)
   have w2:bz (i+1)=i+1:=aS (by omega) (by omega)
   generalize hcs:flat two++sp=cs at*
   have d1:=decide_eq_true r1
   have d3:=decide_eq_true r3
   simp -implicitDefEqProofs only[go_sem,start,aI,aV,ct,cX,cK,cT,Nat.reduceBEq,Nat.reduceAdd,Nat.reduceMul,Nat.reduceLeDiff,Nat.reduceEqDiff,Nat.reduceBNe,Nat.ble_eq,UInt8.reduceToNat,UInt32.reduceToNat,hB',hlt,w1,w2,r2,r4,d1,d3,Bool.true_eq_false,Bool.false_eq_true,false_implies,true_implies,true_and,and_true]
   refine⟨⟨by omega,hi⟩,⟨Int.le_refl _,by omega⟩,⟨by omega,by omega⟩,⟨Int.le_refl _,by omega⟩,fun he=>?_,fun he=>?_⟩
   ·rw[he,cond_true,az]at hb
    simp only[lC]at hb
    exact hb.1 trivial _ (hs.set hrb)
   ·rw[he,cond_false,az]at hb
    exact hb
def Kv(s:ab)(B2:Nat)(l:List aa)(k:Nat)(s':ab):Prop:=∃s1 r,s1 B2=some (.cells [gH r k])∧Sub s s1∧fI s1 r (gi l k)∧s'=fC s1 r (gi l k)
theorem R7{s:ab}{B2:Nat}{l:List aa}{k:Nat}{s':ab}(hs0:s B2=none)(hk:k<20)(hch:(iL l k).length=2)(h:Kv s B2 l k s'):
 swp Go.Proofs.Tryz.prog (TG yJ) ⟨[(4,.ref B2 0),(5,DR (iL l k))],[],s'⟩ fun σ'=>Kv s B2 l (k+1) σ'.s:=by
 have hroom:room=140737488355328:=rfl
 obtain⟨s1,r,h1,h2,h3,rfl⟩:=h
 have hB:fC s1 r (gi l k) B2=some (.cells [gH r k]):=il h3 h1
 have hkl:(gi l k).length=k:=Cv l k
 generalize hst:fC s1 r (gi l k)=st at hB
 rw[yJ,TG]
 unfold DR
 simp -implicitDefEqProofs only[go_sem,seval,hB]
 rw[ft]
 have fin:=vY (σ:=?_) (d:=?_) (K:=?_) (by':=24) (s:=s1) (r:=r) (l:=gi l k) (z:=([]:VL)) (v:=(iL l k:VL)) (sz:=1) ?_ h3 rfl (by rw[hkl];omega) ?_
 ·rw[hkl]at fin
  exact fin
 ·exact hst.symm
 ·intro s2 r' g1 g2
  have hB2:s2 B2=some (.cells [gH r k]):=g1 _ _ h1
  have hB3:fC s2 r' (gi l k++[iL l k]) B2=some (.cells [gH r k]):=il g2 hB2
  rw[hkl]
  generalize hst2:fC s2 r' (gi l k++[iL l k])=st2 at hB3
  simp -implicitDefEqProofs only[go_sem,seval,hB3]
  obtain⟨q1,q2⟩:=Uz (o':=.cells [gH r' (k+1)]) g2 hB2
  refine⟨s2.set B2 (.cells [gH r' (k+1)]),r',bd ..,fun b o hb=>?_,?_,?_⟩
  ·have hne:b≠B2:=fun e=>by subst e;rw[hs0]at hb;cases hb
   rw[ai hne]
   exact g1 _ _ (h2 _ _ hb)
  ·rw[zB];exact q2
  ·rw[zB,←hst2];exact q1
theorem VH{n i j:Nat}{x y:AV}{G:Gh}{W:World}{s:ab}{t:Array Value}(hij:i≠j)(hi:i<n)(hj:j<n)(hg:bM G W)(hs:aL G W s)(ht:t.size=n)(hx:view x=x∧cU x=true)(hy:view y=y∧cU y=true)
 (h1:∀v,t[i]? =some v→VR W G.R x v)(h2:∀v,t[j]? =some v→VR W G.R y v):Inv G n [] ⟨[(i,x),(j,y)],[],s⟩ {tmps:=t,defers:=[]} W:=by
 have lk:∀k,look [(i,x),(j,y)] k=if i=k then x else if j=k then y else .undef:=fun k=>by rw[aJ,aJ];rfl
 refine⟨hg,hs,ht,fun k v hk=>?_,fun k hk=>?_,fun k d hd=>?_,rfl⟩
 ·show c5 G W _ t k (look [(i,x),(j,y)] k) v
  rw[lk]
  by_cases e1:i=k
  ·subst e1;rw[if_pos rfl,←hx.1];exact c5.Ap hx.2 (h1 v hk)
  ·rw[if_neg e1]
   by_cases e2:j=k
   ·subst e2;rw[if_pos rfl,←hy.1];exact c5.Ap hy.2 (h2 v hk)
   ·rw[if_neg e2];exact⟨.undef _,trivial⟩
 ·show look [(i,x),(j,y)] k=.undef
  rw[lk,if_neg (by omega),if_neg (by omega)]
 ·have hd:ba (look [(i,x),(j,y)] k) d:=hd
  rw[lk]at hd
  split at hd
  ·exact(dZ hx.2 d hd).elim
  ·split at hd
   ·exact(dZ hy.2 d hd).elim
   ·exact hd.elim
theorem T7{l:List aa}{r:List aa×Int}{s:ab}(h:BO l=some r):FE Go.Proofs.Tryz.prog 182 [DR l] s [.sl false 4 r.1.length (flat r.1),.int .i64 r.2] s:=by
 unfold BO at h
 have h':ok (BO l) fun x=>x=r:=⟨r,h,rfl⟩
 unfold BO at h'
 simp only[df,dm]at h'
 obtain⟨⟨hl0,hl40,hl2⟩,hm⟩:=h'
 obtain⟨K,hK⟩:∃K,l.length=2*K:=⟨l.length/2,by omega⟩
 have hK2:l.length/2=K:=by omega
 rw[hK2]at hm
 have hKlen:(gi l K).length=K:=Cv l K
 refine FN.jU ?_
 intro G w vs hg ho hs ha
 have hI:=Km (n:=40) hg hs ha (by rfl) (show 1≤40 by decide)
 refine callsIn_wide.1 (callsIn_of_wp_marks (n:=3) Go.Proofs.Tryz.func182 PV trivial ?_ rfl)
 rw[T8]
 have mixed:=mix
 refine piece (af mix) PW hI (ax.refl G w) (fun σ'=>σ'=⟨[(0,DR l)],[],s⟩) ?_ ?_
 ·rw[E6];unfold DR
  simp -implicitDefEqProofs only[go_sem,seval]
 rintro G1 σ1 a1 w1 hI1 hp1 rfl
 refine piece (af mix) PX hI1 hp1 (fun σ'=>∃B2,s B2=none∧σ'=⟨[(0,DR l),(4,.ref B2 0)],[],s.set B2 (.cells [.arr 0 0 0 0])⟩) ?_ ?_
 ·rw[E7];unfold DR
  simp -implicitDefEqProofs only[go_sem,seval]
  intro B2 hB2
  exact⟨B2,hB2,rfl⟩
 rintro G2 σ2 a2 w2 hI2 hp2 ⟨B2,hB2,rfl⟩
 refine wpIn_seq (piece (af mix) PY hI2 hp2 (fun σ'=>∃Bs,(s.set B2 (.cells [.arr 0 0 0 0])) Bs=none∧∃Bn,((s.set B2 (.cells [.arr 0 0 0 0])).set Bs (.cells [DR l])) Bn=none∧
  σ'=⟨[(4,.ref B2 0),(8,.fn 262 [] [.ref Bs 0,.ref Bn 0])],[],((s.set B2 (.cells [.arr 0 0 0 0])).set Bs (.cells [DR l])).set Bn (.cells [.int .i64 2])⟩) ?_ ?_)
 ·rw[E8];unfold DR
  simp -implicitDefEqProofs only[go_sem,seval]
  refine Td fun Bs h1 Bn h2=>?_
  simp -implicitDefEqProofs only[go_sem,seval]
  exact⟨Bs,h1,Bn,h2,rfl⟩
 rintro G3 σ3 a3 w3 hI3 hp3 ⟨Bs,hBs,Bn,hBn,rfl⟩
 have n1:=hBs
 rw[cM]at n1
 have n2:=hBn
 rw[cM]at n2
 have n3:=n2.2
 rw[cM]at n3
 have hsz:=hI3.size
 have e8:a3.tmps[8]? =some (a3.eval (.tmp 8)):=gL (by rw[hsz];decide)
 have e4:a3.tmps[4]? =some (a3.eval (.tmp 4)):=gL (by rw[hsz];decide)
 have v8:VR w3 G3.R (.fn 262 [] [.ref Bs 0,.ref Bn 0]) (a3.eval (.tmp 8)):=(hI3.bW 8 _ e8).1
 have v4:VR w3 G3.R (.ref B2 0) (a3.eval (.tmp 4)):=(hI3.bW 4 _ e4).1
 obtain⟨vf,vc,hv8,hvf,_,hvc,hvc2⟩:=VR.Ph v8
 obtain rfl:vf= #[]:=Array.eq_empty_of_size_eq_zero hvf
 obtain rfl:vc= #[.pointer (some ⟨Bs,0,none⟩),.pointer (some ⟨Bn,0,none⟩)]:=by
  obtain⟨vl⟩:=vc
  match vl,hvc,hvc2 with
  |[x,y],_,hvc2=>rw[VR.gp (hvc2 0 _ x rfl rfl),VR.gp (hvc2 1 _ y rfl rfl)]
 have hBx:(((s.set B2 (.cells [.arr 0 0 0 0])).set Bs (.cells [DR l])).set Bn (.cells [.int .i64 2])) Bs=some (.cells [DR l]):=by rw[ai n2.1.symm,bd]
 have hBy:(((s.set B2 (.cells [.arr 0 0 0 0])).set Bs (.cells [DR l])).set Bn (.cells [.int .i64 2])) Bn=some (.cells [.int .i64 2]):=bd ..
 obtain⟨hOs,_,cs,ts,hhs,⟨hcs1,hcs2⟩,_⟩:=hI3.store Bs _ hBx
 obtain⟨hOn,_,cn,tn,hhn,⟨hcn1,hcn2⟩,_⟩:=hI3.store Bn _ hBy
 obtain⟨x,rfl⟩:∃x,cs= #[x]:=by
  obtain⟨cl⟩:=cs
  match cl,hcs1 with
  |[x],_=>exact⟨x,rfl⟩
 obtain⟨y,rfl⟩:∃y,cn= #[y]:=by
  obtain⟨cl⟩:=cn
  match cl,hcn1 with
  |[x],_=>exact⟨x,rfl⟩
 have hx:VR w3 G3.R (DR l) x:=(hcs2 0 _ x rfl rfl).1
 have hy:y=.int .i64 2:=VR.bk (hcn2 0 _ y rfl rfl).1
 subst hy
 unfold DR at hx
 rcases VR.fA hx with⟨_,he,_⟩|⟨b,off,cap,rfl,hlen,hRb,hcap,hat⟩
 ·exact absurd he (by omega)
 refine wpIn_block ?_
 rw[ab3,Yy]
 let tA:Nat→Array Value:=fun k=>a3.tmps.setIfInBounds 9 (eu b off k)
 have hfold:∀k,((#[9]:Array Tmp).zip #[eu b off k]).foldl (fun t(p,v)=>t.setIfInBounds p v) a3.tmps=tA k:=fun k=>by simp[tA]
 have hav:∀k,k<K→VR w3 G3.R (DR (iL l k)) (eu b off k):=fun k hk=>Te hRb hat (by omega)
 refine adN hI3 hv8 (fun args w=>rH Go.Proofs.Tryz.func262 (by kernel_rfl) (by kernel_rfl) args) (K:=K) (kE:=eu b off) (avs:=fun k=>DR (iL l k)) (S:=Kv s B2 l) [Bs,Bn] ?_ hav ?_ (fun k=>({tmps:=tA k,defers:=[]}:Act).put (some 5) (eu b off k)) ?_ ?_ ?_ ?_
 ·intro b' hb'
  simp only[List.mem_cons,List.not_mem_nil,or_false]at hb'
  rcases hb' with rfl|rfl
  ·exact nP.2 hOs
  ·exact nP.2 hOn
 ·refine⟨_,none,?_,fun b' o hb'=>?_,rfl,rfl⟩
  ·show(if B2∈[Bs,Bn]then none else(((s.set B2 (.cells [.arr 0 0 0 0])).set Bs (.cells [DR l])).set Bn (.cells [.int .i64 2])) B2)=_
   rw[if_neg (by simp only[List.mem_cons,List.not_mem_nil,or_false,not_or];exact⟨n1.1.symm,n3.1.symm⟩),ai n3.1.symm,ai n1.1.symm,bd]
   rfl
  ·have e1:b'≠B2:=fun e=>by subst e;rw[hB2]at hb';cases hb'
   have e2:b'≠Bs:=fun e=>by subst e;rw[n1.2]at hb';cases hb'
   have e3:b'≠Bn:=fun e=>by subst e;rw[n3.2]at hb';cases hb'
   show(if b'∈[Bs,Bn]then none else(((s.set B2 (.cells [.arr 0 0 0 0])).set Bs (.cells [DR l])).set Bn (.cells [.int .i64 2])) b')=_
   rw[if_neg (by simp only[List.mem_cons,List.not_mem_nil,or_false,not_or];exact⟨e2,e3⟩),ai e3,ai e2,ai e1]
   exact hb'
 ·intro lo J W hbx hdr hY h0
  have c1:w3.cell? ⟨Bs,0,none⟩=some (.slice (some ⟨b,off,none⟩) (2*K) cap):=by rw[←hK];simp[World.cell?,hhs]
  have c2:w3.cell? ⟨Bn,0,none⟩=some (.int .i64 2):=by simp[World.cell?,hhn]
  exact Rv (lo:=lo) (Bs:=Bs) (Bn:=Bn) (b:=b) (off:=off) (K:=K) (cap:=cap) (by omega) (by omega) (fun k W h=>⟨(World.cell?_of_block (hbx k W h Bs (by simp))).trans c1,(World.cell?_of_block (hbx k W h Bn (by simp))).trans c2⟩) hdr hY h0
 ·intro lo k W K' hk
  rw[hfold]
  have hev:({tmps:=tA k,defers:=[]}:Act).eval (.tmp 9)=eu b off k:=by
   show(a3.tmps.setIfInBounds 9 (eu b off k)).getD 9 undef=_
   rw[Array.getD_eq_getD_getElem?,Array.getElem?_setIfInBounds_self_of_lt (by rw[hsz];decide)]
   rfl
  refine wpIn_region_list (wpListIn_plain rfl fun K2 hK2=>⟨fun _ _=>trivial,?_⟩)
  rw[←hev]at hk
  exact hK2 _ _ hk
 ·intro k hk lo G' W s' g1 g2 g3 hS hv R hR
  refine Uy P0 N4 (VH (n:=40) (i:=4) (j:=5) (x:=.ref B2 0) (y:=DR (iL l k)) (t:=(tA k).setIfInBounds 5 (eu b off k)) (by decide) (by decide) (by decide) g1 g3 ?_ ⟨rfl,rfl⟩ ⟨rfl,rfl⟩ ?_ ?_) (R7 hB2 (by omega) (yA l k (by omega)) hS) hR
  ·show((a3.tmps.setIfInBounds 9 _).setIfInBounds 5 _).size=_
   rw[Array.size_setIfInBounds,Array.size_setIfInBounds,hsz]
  ·intro v hv4
   have hv4:((a3.tmps.setIfInBounds 9 (eu b off k)).setIfInBounds 5 (eu b off k))[4]? =some v:=hv4
   rw[Array.getElem?_setIfInBounds_ne (by decide),Array.getElem?_setIfInBounds_ne (by decide),e4,VR.gp v4]at hv4
   injection hv4 with hv4
   rw[←hv4]
   exact .ref _ _
  ·intro v hv5
   have hv5:((a3.tmps.setIfInBounds 9 (eu b off k)).setIfInBounds 5 (eu b off k))[5]? =some v:=hv5
   rw[Array.getElem?_setIfInBounds_self_of_lt (by rw[Array.size_setIfInBounds,hsz];decide)]at hv5
   injection hv5 with hv5
   rw[←hv5]
   exact hv
 ·intro G4 W4 s4 hS hI4 hp4 hdef
  obtain⟨s1,r1,h1,h2,h3,rfl⟩:=hS
  obtain⟨rb,cap1,sp,rfl⟩:=LU h3 (by rw[hKlen];omega)
  have hlt:w3.heap.size<(w3.alloc (.deferred (some []))).heap.size:=by rw[World.size_alloc];omega
  refine last (af mix) PZ (hI4.yW [4]) hp4 (cT ni fun rs s''=>∃s2,Sub s2 s''∧(rs=[.sl false 4 r.1.length (flat r.1),.int .i64 r.2]∧s2=s)) ?_ ?_
  ·refine P1 (s:=s) (own:=true) (by rw[hKlen];exact h1) h3.1 h2 (by rw[hKlen];omega) (by rw[hKlen];omega) ?_
   rw[hKlen]
   refine cq hm fun two⟨⟨q1,q2,q3⟩,q4⟩=>⟨fun c hc=>?_,q2,q3,cq q4 fun d hd=>⟨fun e s' hs'=>?_,fun e s' hs'=>?_⟩⟩
   ·have:=List.all_eq_true.1 q1 c hc
    simpa using this
   ·rw[e,cond_true,az]at hd
    subst hd
    exact⟨s,hs',rfl,rfl⟩
   ·rw[e,cond_false,az]at hd
    subst hd
    exact⟨s,hs',rfl,rfl⟩
  ·intro x G5 σ' a' W5 k1 k2 k3
   have hfin:∀(hall:cK (aV σ' ni)=true)(hq:∃s2,Sub s2 σ'.s∧(aV σ' ni=[.sl false 4 r.1.length (flat r.1),.int .i64 r.2]∧s2=s)),_:=fun hall hq=>Uw (Q:=fun rs s''=>∃s2,Sub s2 s''∧(rs=[.sl false 4 r.1.length (flat r.1),.int .i64 r.2]∧s2=s)) R8 k1 ((hp3.trans (fc hI3.aG _ .frame 0).2.1).trans k2) (k2.ji _ hlt (by simp)).1 ((k2.ji _ hlt (by simp)).2.trans (by simp)) ((k2.frame _ hlt (.inl (by simp))).trans (World.alloc_heap_new w3 _)) hp3.size hall hq
   cases x with
   |ret=>exact hfin k3.1 k3.2
   |normal=>exact hfin k3.1 k3.2
   |_=>exact k3.elim
theorem V9:zq BO:=fun _ _ _ h=>T7 h
def oF(b:List UInt8)(a:Int)(last:Bool):Option (aa×Int×Int):=rB BO b a last
theorem uO{b:List UInt8}{a:Int}{last:Bool}{s:ab}{r:aa×Int×Int}(h:oF b a last=some r):FE Go.Proofs.Tryz.prog 36 [.sl false 1 b.length (flat b),.int .i64 a,.bool last] s
 [.agg [.int .i64 r.1.Kind,.int .i64 r.1.N,.str r.1.S.b,.sl false 4 r.1.L.length (flat r.1.L)],.int .i64 r.2.1,.int .i64 r.2.2] s:=
 FN.jU (UN V9 ⟨r,h,fun s' hs=>⟨s,hs,rfl,rfl⟩⟩)
end Go.AB
end
section
end
section
set_option maxRecDepth 4000
namespace Go.AB
open Go
attribute[-go_sem] bU cN bw bT
structure eI where
 b_:(List UInt8)
 at_:Int
 aZ:Bool
instance:aH eI:=⟨3,fun x=>[.sl false 1 x.b_.length (flat x.b_),.int .i64 x.at_,.bool x.aZ],(eI.mk [] 0 false),by decide,fun _=>rfl,fun _=>rfl⟩
structure cm where
 aE:eI
 e_:Int
instance:aH cm:=⟨4,fun x=>[.sl false 1 x.aE.b_.length (flat x.aE.b_),.int .i64 x.aE.at_,.bool x.aE.aZ,.int .i64 x.e_],(cm.mk (eI.mk [] 0 false) 0),by decide,fun _=>rfl,fun _=>rfl⟩
structure ag where
 V:aa
 Stream:Bool
 Data:aA
instance:aH ag:=⟨6,fun x=>[.int .i64 x.V.Kind,.int .i64 x.V.N,.str x.V.S.b,.sl false 4 x.V.L.length (flat x.V.L),.bool x.Stream,.str x.Data.b],(ag.mk (aa.mk 0 0 (aA.mk []) []) false (aA.mk [])),by decide,fun _=>rfl,fun _=>rfl⟩
@[go_sem]theorem kY(x:ag):aH.cells x=[.int .i64 x.V.Kind,.int .i64 x.V.N,.str x.V.S.b,.sl false 4 x.V.L.length (flat x.V.L),.bool x.Stream,.str x.Data.b]:=rfl
@[go_sem]theorem uN(l:List ag)(i:Int):pad [.int .i64 0,.int .i64 0,.str [],.sl false 4 0 [],.bool false,.str []] (views (AB.sub (flat l) (i.toNat*6) 6))=[.int .i64 (((ix l i).V).Kind),.int .i64 (((ix l i).V).N),.str (((ix l i).V).S).b,.sl false 4 (((ix l i).V).L).length (flat (((ix l i).V).L)),.bool ((ix l i).Stream),.str ((ix l i).Data).b]:=by rw[←kY];exact pT _ 6 l i (by rw[kY];rfl) rfl
def gT(r_0:cm)(w_1:aA):Option (cm):=
 if r_0.e_ !=0 then
  none
 else
  aP (ju r_0.aE.b_ r_0.aE.at_ r_0.aE.aZ w_1) fun r1=>
  some (cm.mk (eI.mk r_0.aE.b_ r1.1 r_0.aE.aZ) r1.2)
def lQ:IC:=
 (.seq (ae [mv 4 0,nc 5 4,fa 6 3 5,i1 7 (.aU lZ false (.t 6)),bn 8 .neq 7 0] [0,1,8]
 (.cond (.t 8) .dead
 .skip))
 (.IP [] [(1,0,mv 10 0),(1,1,mv 11 0),(0,2,mv 12 0),(0,3,nc 13 12),(0,4,fa 14 0 13),(0,5,fa 15 0 14),(0,6,i1 16 (.aU [.sl false 1 0 []] false (.t 15))),(0,7,mv 17 0),(0,8,nc 18 17),(0,9,fa 19 0 18),(0,10,fa 20 1 19),(0,11,i1 21 (.aU lZ false (.t 20))),(0,12,mv 22 0),(0,13,nc 23 22),(0,14,fa 24 0 23),(0,15,fa 25 2 24),(0,16,i1 26 (.aU [.bool false] false (.t 25))),(0,17,mv 27 1),(2,18,Sj 28 70 16 21 26 27),(0,19,iw 9 28),(0,20,ex 29 9 0),(1,21,ex 30 9 1),(0,22,nc 31 10),(0,23,fa 32 0 31),(0,24,fa 33 1 32),(2,25,st 1 33 29),(0,26,nc 34 11),(0,27,fa 35 3 34),(2,28,st 1 35 30)] []))
def kP:List ay:=[]
theorem uj:aC Go.Proofs.Tryz.prog 170 36 kP lQ=true:=by kernel_rfl
theorem tF{r_0 w_1}{B0:Nat}{s:ab}{Q:List AV→ab→Prop}(hB0:s B0=some (.cells [.sl false 1 r_0.aE.b_.length (flat r_0.aE.b_),.int .i64 r_0.aE.at_,.bool r_0.aE.aZ,.int .i64 r_0.e_])):ok (gT r_0 w_1) (fun r=>Q [] (s.set B0 (.cells [.sl false 1 r.aE.b_.length (flat r.aE.b_),.int .i64 r.aE.at_,.bool r.aE.aZ,.int .i64 r.e_])))→FN Go.Proofs.Tryz.prog 170 [.ref B0 0,.str w_1.b] s Q:=by
 have hS:s=(s.set B0 (.cells [.sl false 1 r_0.aE.b_.length (flat r_0.aE.b_),.int .i64 r_0.aE.at_,.bool r_0.aE.aZ,.int .i64 r_0.e_])):=by simp only[du hB0]
 rw[hS]
 intro h
 refine FN.of (af mix) uj rfl (Nat.le_of_ble_eq_true rfl) ?_
 revert h
 rw[lQ,kP,gT]
 repeat'(first
  |with_reducible exact cF
  |with_reducible refine bj ?_ ?_
  |with_reducible refine cJ ?_
  |with_reducible refine ak (fun _(h:ju r_0.aE.b_ r_0.aE.at_ r_0.aE.aZ w_1=some _)=>xK h) (fun r1=>?_)
  |simp -implicitDefEqProofs only[go_sem,seval])
def dH(r_0:cm)(from_1:Int)(to_2:Int):Option (Int×cm):=
 if r_0.e_ !=0 then
  none
 else
  aP (eG r_0.aE.b_ r_0.aE.at_ r_0.aE.aZ) fun r1=>
  if(r1.2.2==0)&&((decide (r1.1<from_1))||(decide (r1.1>to_2)))then
   none
  else
   some (r1.1,(cm.mk (eI.mk r_0.aE.b_ r1.2.1 r_0.aE.aZ) r1.2.2))
def ka:IC:=
 (ae [mi 6 0] [0,1,2]
 (.seq (ae [mv 10 0,nc 11 10,fa 12 3 11,i1 13 (.aU lZ false (.t 12)),bn 14 .neq 13 0] [0,1,2,14]
 (.cond (.t 14) .dead
 .skip))
 (.seq (.bD (some 23) [mv 16 0,nc 17 16,fa 18 0 17,fa 19 0 18,i1 20 (.aU [.sl false 1 0 []] false (.t 19)),mv 21 0,nc 22 21,fa 23 0 22,fa 24 1 23,i1 25 (.aU lZ false (.t 24)),mv 26 0,nc 27 26,fa 28 0 27,fa 29 2 28,i1 30 (.aU [.bool false] false (.t 29)),c3 31 69 20 25 30,iw 15 31,ex 32 15 0,ex 33 15 1,ex 34 15 2,mv 7 32,mv 8 33,mv 9 34] [0,1,2,7,8,9])
 (.seq (ae [mv 35 9,bn 36 .eql 35 0,mv 37 36,c9 38 7 37 true,c9 39 1 37 true,s6 40 37 true .lss 38 39,c9 41 40 37 true,c9 42 7 41 false,c9 43 2 41 false,s6 44 41 false .gtr 42 43,cS 45 37 true (.pick (.t 41) (.c (.bool true)) (.t 44)),pf 46 37 45] [0,7,8,9,46]
 (.cond (.t 46) .dead
 .skip))
 (ae [mv 47 0,mv 48 0,mv 49 8,mv 50 9,nc 51 47,fa 52 0 51,fa 53 1 52,st 1 53 49,nc 54 48,fa 55 3 54,st 1 55 50] [7]
 (ae [mv 56 7,mv 6 56] [6]
 .ret))))))
def jM:List ay:=[⟨6,true,none⟩]
theorem rp:aC Go.Proofs.Tryz.prog 169 57 jM ka=true:=by kernel_rfl
theorem j8{r_0 from_1 to_2}{B0:Nat}{s:ab}{Q:List AV→ab→Prop}(hB0:s B0=some (.cells [.sl false 1 r_0.aE.b_.length (flat r_0.aE.b_),.int .i64 r_0.aE.at_,.bool r_0.aE.aZ,.int .i64 r_0.e_])):ok (dH r_0 from_1 to_2) (fun r=>Q [.int .i64 r.1] (s.set B0 (.cells [.sl false 1 r.2.aE.b_.length (flat r.2.aE.b_),.int .i64 r.2.aE.at_,.bool r.2.aE.aZ,.int .i64 r.2.e_])))→FN Go.Proofs.Tryz.prog 169 [.ref B0 0,.int .i64 from_1,.int .i64 to_2] s Q:=by
 have hS:s=(s.set B0 (.cells [.sl false 1 r_0.aE.b_.length (flat r_0.aE.b_),.int .i64 r_0.aE.at_,.bool r_0.aE.aZ,.int .i64 r_0.e_])):=by simp only[du hB0]
 rw[hS]
 intro h
 refine FN.of (af mix) rp rfl (Nat.le_of_ble_eq_true rfl) ?_
 revert h
 rw[ka,jM,dH]
 repeat'(first
  |with_reducible exact cF
  |with_reducible refine bj ?_ ?_
  |with_reducible refine cJ ?_
  |with_reducible refine bH (fun _(h:eG r_0.aE.b_ r_0.aE.at_ r_0.aE.aZ=some _)=>ml h) (fun _=>rfl) (fun r1=>?_)
  |simp -implicitDefEqProofs only[go_sem,seval])
def gl(r_0:cm):Option (aa×cm):=
 if r_0.e_ !=0 then
  none
 else
  aP (oF r_0.aE.b_ r_0.aE.at_ r_0.aE.aZ) fun r1=>
  some (r1.1,(cm.mk (eI.mk r_0.aE.b_ r1.2.1 r_0.aE.aZ) r1.2.2))
def kI:IC:=
 (ae [i1 2 (.aq gB)] [0,2]
 (.seq (ae [mv 6 0,nc 7 6,fa 8 3 7,i1 9 (.aU lZ false (.t 8)),bn 10 .neq 9 0] [0,2,10]
 (.cond (.t 10) .dead
 .skip))
 (.seq (.wY [3] 24 [mv 13 0,nc 14 13,fa 15 0 14,fa 16 0 15,i1 17 (.aU [.sl false 1 0 []] false (.t 16)),mv 18 0,nc 19 18,fa 20 0 19,fa 21 1 20,i1 22 (.aU lZ false (.t 21)),mv 23 0,nc 24 23,fa 25 0 24,fa 26 2 25,i1 27 (.aU [.bool false] false (.t 26)),c3 28 36 17 22 27,iw 12 28,ex 29 12 0,ex 30 12 1,ex 31 12 2,i1 3 (.aq gB),st 4 3 29,mv 4 30,mv 5 31] [0,2,3,4,5])
 (ae [mv 32 0,mv 33 0,mv 34 4,mv 35 5,nc 36 32,fa 37 0 36,fa 38 1 37,st 1 38 34,nc 39 33,fa 40 3 39,st 1 40 35] [2,3]
 (ae [lm 41 4 3,st 4 2 41] [2]
 .ret)))))
def kq:List ay:=[⟨2,false,some (4,true)⟩]
theorem sX:aC Go.Proofs.Tryz.prog 172 42 kq kI=true:=by kernel_rfl
theorem sW{r_0}{B0:Nat}{s:ab}{Q:List AV→ab→Prop}(hB0:s B0=some (.cells [.sl false 1 r_0.aE.b_.length (flat r_0.aE.b_),.int .i64 r_0.aE.at_,.bool r_0.aE.aZ,.int .i64 r_0.e_])):ok (gl r_0) (fun r=>Q [.agg [.int .i64 r.1.Kind,.int .i64 r.1.N,.str r.1.S.b,.sl false 4 r.1.L.length (flat r.1.L)]] (s.set B0 (.cells [.sl false 1 r.2.aE.b_.length (flat r.2.aE.b_),.int .i64 r.2.aE.at_,.bool r.2.aE.aZ,.int .i64 r.2.e_])))→FN Go.Proofs.Tryz.prog 172 [.ref B0 0] s Q:=by
 have hS:s=(s.set B0 (.cells [.sl false 1 r_0.aE.b_.length (flat r_0.aE.b_),.int .i64 r_0.aE.at_,.bool r_0.aE.aZ,.int .i64 r_0.e_])):=by simp only[du hB0]
 rw[hS]
 intro h
 refine FN.of (af mix) sX rfl (Nat.le_of_ble_eq_true rfl) ?_
 revert h
 rw[kI,kq,gl]
 repeat'(first
  |with_reducible exact cF
  |((with_reducible refine OL ?_ ?_);exact rfl)
  |with_reducible refine bj ?_ ?_
  |with_reducible refine cJ ?_
  |with_reducible refine bH (fun _(h:oF r_0.aE.b_ r_0.aE.at_ r_0.aE.aZ=some _)=>uO h) (fun _=>rfl) (fun r1=>?_)
  |simp -implicitDefEqProofs only[go_sem,seval])
def fo(r_0:cm):Option (Bool×cm):=
 if r_0.e_ !=0 then
  none
 else
  aP (dB r_0.aE.b_ r_0.aE.at_ r_0.aE.aZ) fun r1=>
  if r1.2 !=0 then
   none
  else
   if r1.1.Kind==0 then
    none
   else
    if(r1.1.Kind !=6)||((!(r1.1.S.b==(aA.mk [101,110,100,111,98,106]).b))&&(!(r1.1.S.b==(aA.mk [115,116,114,101,97,109]).b)))then
     none
    else
     some ((r1.2==0)&&(r1.1.S.b==(aA.mk [115,116,114,101,97,109]).b),(cm.mk (eI.mk r_0.aE.b_ r1.1.To r_0.aE.aZ) r1.2))
def jF:IC:=
 (ae [cV 2 (.bool false)] [0]
 (.seq (ae [mv 5 0,nc 6 5,fa 7 3 6,i1 8 (.aU lZ false (.t 7)),bn 9 .neq 8 0] [0,9]
 (.cond (.t 9) .dead
 .skip))
 (.seq (.wY [3] 22 [mv 11 0,nc 12 11,fa 13 0 12,fa 14 0 13,i1 15 (.aU [.sl false 1 0 []] false (.t 14)),mv 16 0,nc 17 16,fa 18 0 17,fa 19 1 18,i1 20 (.aU lZ false (.t 19)),mv 21 0,nc 22 21,fa 23 0 22,fa 24 2 23,i1 25 (.aU [.bool false] false (.t 24)),c3 26 127 15 20 25,iw 10 26,ex 27 10 0,ex 28 10 1,i1 3 (.aq A3),st 8 3 27,mv 4 28] [0,3,4])
 (ae [mv 29 0,mv 30 0,fa 31 2 3,ld 32 1 31,mv 33 4,nc 34 29,fa 35 0 34,fa 36 1 35,st 1 36 32,nc 37 30,fa 38 3 37,st 1 38 33] [0,3,4]
 (.seq (.block 0 (ae [mv 40 4,bn 41 .neq 40 0,mv 39 41] [0,3,39]
 (.cond (.t 39) .dead
 (ae [fa 43 0 3,ld 44 1 43,bn 45 .eql 44 0,mv 42 45] [0,3,42]
 (.cond (.t 42) .dead
 (ae [fa 49 0 3,ld 50 1 49,bn 51 .neq 50 6,mv 52 51,fg 53 52 false 7 3,lg 54 52 false 1 53,cS 55 52 false (.bin .neq (.t 54) (.c (.str [101,110,100,111,98,106]))),c9 56 55 52 false,fg 57 56 true 7 3,lg 58 56 true 1 57,cS 59 56 true (.bin .neq (.t 58) (.c (.str [115,116,114,101,97,109]))),cS 60 52 false (.pick (.t 56) (.t 59) (.c (.bool false))),po 61 52 60,mv 48 61] [0,3,48]
 (.cond (.t 48) .dead
 .skip)))))))
 (ae [mv 64 0,nc 65 64,fa 66 3 65,i1 67 (.aU lZ false (.t 66)),bn 68 .eql 67 0,mv 69 68,fg 70 69 true 7 3,lg 71 69 true 1 70,cS 72 69 true (.bin .eql (.t 71) (.c (.str [115,116,114,101,97,109]))),pf 73 69 72,mv 2 73] [2]
 .ret))))))
def iX:List ay:=[⟨2,true,none⟩]
theorem qf:aC Go.Proofs.Tryz.prog 173 74 iX jF=true:=by kernel_rfl
theorem pU{r_0}{B0:Nat}{s:ab}{Q:List AV→ab→Prop}(hB0:s B0=some (.cells [.sl false 1 r_0.aE.b_.length (flat r_0.aE.b_),.int .i64 r_0.aE.at_,.bool r_0.aE.aZ,.int .i64 r_0.e_])):ok (fo r_0) (fun r=>Q [.bool r.1] (s.set B0 (.cells [.sl false 1 r.2.aE.b_.length (flat r.2.aE.b_),.int .i64 r.2.aE.at_,.bool r.2.aE.aZ,.int .i64 r.2.e_])))→FN Go.Proofs.Tryz.prog 173 [.ref B0 0] s Q:=by
 have hS:s=(s.set B0 (.cells [.sl false 1 r_0.aE.b_.length (flat r_0.aE.b_),.int .i64 r_0.aE.at_,.bool r_0.aE.aZ,.int .i64 r_0.e_])):=by simp only[du hB0]
 rw[hS]
 intro h
 refine FN.of (af mix) qf rfl (Nat.le_of_ble_eq_true rfl) ?_
 revert h
 rw[jF,iX,fo]
 repeat'(first
  |with_reducible exact cF
  |((with_reducible refine OL ?_ ?_);exact rfl)
  |with_reducible refine bj ?_ ?_
  |with_reducible refine cJ ?_
  |with_reducible refine bH (fun _(h:dB r_0.aE.b_ r_0.aE.at_ r_0.aE.aZ=some _)=>jH h) (fun _=>rfl) (fun r1=>?_)
  |simp -implicitDefEqProofs only[go_sem,seval])
def j7(v_0:aa):Option (ag):=some (ag.mk v_0 false (aA.mk []))
def rY:IC:=
 (ae [i1 1 (.cW 4 (.t 0)),i1 2 (.aq xM)] [1,2]
 (ae [lm 3 4 1,i1 4 (.build xM [(0,4,(.t 3))]),st 6 2 4] [2]
 .ret))
def qB:List ay:=[⟨2,false,some (6,true)⟩]
theorem Dm:aC Go.Proofs.Tryz.prog 171 5 qB rY=true:=by kernel_rfl
theorem De{v_0}{s:ab}{Q:List AV→ab→Prop}:ok (j7 v_0) (fun r=>Q [.agg [.int .i64 r.V.Kind,.int .i64 r.V.N,.str r.V.S.b,.sl false 4 r.V.L.length (flat r.V.L),.bool r.Stream,.str r.Data.b]] s)→FN Go.Proofs.Tryz.prog 171 [.agg [.int .i64 v_0.Kind,.int .i64 v_0.N,.str v_0.S.b,.sl false 4 v_0.L.length (flat v_0.L)]] s Q:=by
 intro h
 refine FN.of (af mix) Dm rfl (Nat.le_of_ble_eq_true rfl) ?_
 revert h
 rw[rY,qB,j7]
 repeat'(first
  |simp -implicitDefEqProofs only[go_sem,seval])
theorem Dd{v_0}{s:ab}{r:ag}(h:j7 v_0=some r):FE Go.Proofs.Tryz.prog 171 [.agg [.int .i64 v_0.Kind,.int .i64 v_0.N,.str v_0.S.b,.sl false 4 v_0.L.length (flat v_0.L)]] s [.agg [.int .i64 r.V.Kind,.int .i64 r.V.N,.str r.V.S.b,.sl false 4 r.V.L.length (flat r.V.L),.bool r.Stream,.str r.Data.b]] s:=De ⟨r,h,rfl,rfl⟩
def oi(b_0:(List UInt8))(at_1:Int)(last_2:Bool):Option (Int×ag×Int×Int):=
 aP (dH (cm.mk (eI.mk b_0 at_1 last_2) 0) 1 4096) fun r1=>
 aP (dH r1.2 0 0) fun r2=>
 aP (gT r2.2 (aA.mk [111,98,106])) fun r3=>
 aP (gl r3) fun r4=>
 aP (j7 r4.1) fun r5=>
 aP (fo r4.2) fun r6=>
 if r6.1 then
  none
 else
  if r6.2.e_ !=0 then
   none
  else
   some (r1.1,r5,r6.2.aE.at_,0)
def tM:IC:=
 (ae [mi 6 0,i1 7 (.aq xM),mi 8 0,mi 9 0] [0,1,2,7]
 (ae [mt 13 0,mv 14 1,mv 15 2,i1 16 (.build [.sl true 1 0 [],.int .i64 0,.bool false] [(0,1,(.t 13)),(1,1,(.t 14)),(2,1,(.t 15))]),i1 17 (.build [.sl true 1 0 [],.int .i64 0,.bool false,.int .i64 0] [(0,3,(.t 16))]),i1 18 (.mP 4 (.t 17)),mv 10 18] [7,10]
 (ae [mv 19 10,i1 20 (.call 169 [(.t 19),(.c (.int .i64 1)),(.c (.int .i64 4096))]),mv 11 20] [7,10,11]
 (ae [mv 21 10,i1 22 (.call 169 [(.t 21),(.c (.int .i64 0)),(.c (.int .i64 0))])] [7,10,11]
 (ae [mv 23 10,i1 24 (.call 170 [(.t 23),(.c (.str [111,98,106]))])] [7,10,11]
 (ae [mv 25 10,c1 26 172 25,c1 27 171 26,i1 12 (.aq xM),st 6 12 27] [7,10,11,12]
 (.seq (ae [mv 28 10,c1 29 173 28] [7,10,11,12,29]
 (.cond (.t 29) .dead
 .skip))
 (.seq (ae [mv 34 10,nc 35 34,fa 36 3 35,i1 37 (.aU lZ false (.t 36)),bn 38 .neq 37 0] [7,10,11,12,38]
 (.cond (.t 38) .dead
 .skip))
 (.seq (.wY [7] 11 [mv 44 11,lm 45 6 12,mv 46 10,nc 47 46,fa 48 0 47,fa 49 1 48,i1 50 (.aU lZ false (.t 49)),mv 6 44,st 6 7 45,mv 8 50,mi 9 0] [6,7,8,9])
 .ret)))))))))
def sy:List ay:=[⟨6,true,none⟩,⟨7,false,some (6,true)⟩,⟨8,true,none⟩,⟨9,true,none⟩]
theorem Fk:aC Go.Proofs.Tryz.prog 118 51 sy tM=true:=by kernel_rfl
theorem EU{b_0 at_1 last_2}{s:ab}{Q:List AV→ab→Prop}:ok (oi b_0 at_1 last_2) (fun r=>Q [.int .i64 r.1,.agg [.int .i64 r.2.1.V.Kind,.int .i64 r.2.1.V.N,.str r.2.1.V.S.b,.sl false 4 r.2.1.V.L.length (flat r.2.1.V.L),.bool r.2.1.Stream,.str r.2.1.Data.b],.int .i64 r.2.2.1,.int .i64 r.2.2.2] s)→FN Go.Proofs.Tryz.prog 118 [.sl false 1 b_0.length (flat b_0),.int .i64 at_1,.bool last_2] s Q:=by
 intro h
 refine FN.forget ?_
 refine FN.of (af mix) Fk rfl (Nat.le_of_ble_eq_true rfl) ?_
 revert h
 rw[tM,sy,oi]
 repeat'(first
  |with_reducible exact cF
  |with_reducible refine bj ?_ ?_
  |with_reducible refine cJ ?_
  |with_reducible refine fun hh=>j8 (B0:=N1) (by simp -implicitDefEqProofs only[go_sem,seval]<;>simp only[bp]) (cq (show ok (dH (cm.mk (eI.mk b_0 at_1 last_2) 0) 1 4096) _ from hh) fun r1=>?_)
  |with_reducible refine fun hh=>j8 (B0:=N1) (by simp -implicitDefEqProofs only[go_sem,seval]<;>simp only[bp]) (cq (show ok (dH r1.2 0 0) _ from hh) fun r2=>?_)
  |with_reducible refine fun hh=>tF (B0:=N1) (by simp -implicitDefEqProofs only[go_sem,seval]<;>simp only[bp]) (cq (show ok (gT r2.2 (aA.mk [111,98,106])) _ from hh) fun r3=>?_)
  |with_reducible refine fun hh=>sW (B0:=N1) (by simp -implicitDefEqProofs only[go_sem,seval]<;>simp only[bp]) (cq (show ok (gl r3) _ from hh) fun r4=>?_)
  |with_reducible refine ak (fun _(h:j7 r4.1=some _)=>Dd h) (fun r5=>?_)
  |with_reducible refine fun hh=>pU (B0:=N1) (by simp -implicitDefEqProofs only[go_sem,seval]<;>simp only[bp]) (cq (show ok (fo r4.2) _ from hh) fun r6=>?_)
  |((fail_if_success (have _x:=sN1));with_reducible intro hh N1 hN1;(try simp only[cM]at hN1);have sN1:=hN1;revert hh)
  |with_reducible exact fun hh=>⟨_,jX.set (jX.refl _) (by simp[ab.set,sN1]),hh⟩
  |simp -implicitDefEqProofs only[go_sem,seval])
theorem ET{b_0 at_1 last_2}{s:ab}{r:Int×ag×Int×Int}(h:oi b_0 at_1 last_2=some r):FE Go.Proofs.Tryz.prog 118 [.sl false 1 b_0.length (flat b_0),.int .i64 at_1,.bool last_2] s [.int .i64 r.1,.agg [.int .i64 r.2.1.V.Kind,.int .i64 r.2.1.V.N,.str r.2.1.V.S.b,.sl false 4 r.2.1.V.L.length (flat r.2.1.V.L),.bool r.2.1.Stream,.str r.2.1.Data.b],.int .i64 r.2.2.1,.int .i64 r.2.2.2] s:=EU ⟨r,h,rfl,rfl⟩
end Go.AB
end
section
set_option maxRecDepth 4000
namespace Go.AB
open Go
theorem FN.args{P:Program}{f:FuncId}{args args':List AV}{s:ab}{Q:List AV→ab→Prop}(h:FN P f args' s Q)(ha:∀(G:Gh)(w:World)(vs:Array Value),aL G w s→kF w G.R args vs→kF w G.R args' vs):FN P f args s Q:=fun G w vs h1 h2 h3 h4=>h G w vs h1 h2 h3 (ha G w vs h3 h4)
structure aj where
 bI:Int
 To:Int
 deriving DecidableEq
instance:aH aj:=⟨2,fun x=>[.int .i64 x.bI,.int .i64 x.To],(aj.mk 0 0),by decide,fun _=>rfl,fun _=>rfl⟩
@[go_sem]theorem tv(x:aj):aH.cells x=[.int .i64 x.bI,.int .i64 x.To]:=rfl
@[go_sem]theorem V6(l:List aj)(i:Int):pad [.int .i64 0,.int .i64 0] (views (AB.sub (flat l) (i.toNat*2) 2))=[.int .i64 ((ix l i).bI),.int .i64 ((ix l i).To)]:=by rw[←tv];exact pT _ 2 l i (by rw[tv];rfl) rfl
def jC(x_0:aj):Option (Bool):=some ((decide (x_0.bI<0))||(decide (x_0.To≤x_0.bI)))
def xB:IC:=
 (ae [i1 1 (.cW 2 (.t 0)),cV 2 (.bool false)] [1]
 (ae [fa 3 0 1,ld 4 1 3,bn 5 .lss 4 0,mv 6 5,fg 7 6 false 1 1,lg 8 6 false 1 7,fg 9 6 false 0 1,lg 10 6 false 1 9,s6 11 6 false .leq 8 10,po 12 6 11,mv 2 12] [2]
 .ret))
def vu:List ay:=[⟨2,true,none⟩]
theorem HX:aC Go.Proofs.Tryz.prog 175 13 vu xB=true:=by kernel_rfl
theorem IU{x_0}{s:ab}{Q:List AV→ab→Prop}:ok (jC x_0) (fun r=>Q [.bool r] s)→FN Go.Proofs.Tryz.prog 175 [.agg [.int .i64 x_0.bI,.int .i64 x_0.To]] s Q:=by
 intro h
 refine FN.of (af mix) HX rfl (Nat.le_of_ble_eq_true rfl) ?_
 revert h
 rw[xB,vu,jC]
 repeat'(first
  |simp -implicitDefEqProofs only[go_sem,seval])
theorem pB{x_0}{s:ab}{r:Bool}(h:jC x_0=some r):FE Go.Proofs.Tryz.prog 175 [.agg [.int .i64 x_0.bI,.int .i64 x_0.To]] s [.bool r] s:=IU ⟨r,h,rfl,rfl⟩
def aM(s_0:(List aj)):Option (Int):=
 Hg (
  mO (
   iter (fun(t2:Int)=>
    if decide (t2<(s_0.length:Int))then
     aK (0≤t2∧t2<s_0.length)<|
     aP (jC (ix s_0 t2)) fun r4=>
     if r4 then
      some (.inr (.inr t2))
     else
      some (.inl (bz (t2+1)))
    else
     some (.inr (.inl ()))) 0) (fun(_:Unit)=>
   some (.inl ()))
  (fun(t3:Int)=>some (.inr t3))) (fun(_:Unit)=>
  some (-1))
 (fun(t1:Int)=>some t1)
theorem Ni:(ny Go.Proofs.Tryz.prog 175=true)=True:=eq_true (by kernel_rfl)
def ez:IC:=
 (ae [mi 4 0] [0,1]
 (.join [] (ae [mv 6 0,le 7 0 6,mi 8 0] [0,1,7,8]
 (.block 0 (.loop [(0,true),(1,false),(7,false),(8,false)] (ae [bt 9 .lss 8 7] [0,1,7,8,9]
 (.seq (.cond (.t 9) .skip
 (.exit 0))
 (.seq (.block 1 (ae [mv 10 8,mv 5 10] [0,1,5,7,8]
 (ae [mv 11 1,mv 12 0,mv 13 5,ia 14 [.int .i64 0,.int .i64 0] 12 13,lm 15 2 14,i1 16 (.b6 (.t 11) [(.t 15)])] [0,1,5,7,8,16]
 (.cond (.t 16) (ae [mv 17 5,mv 4 17] [4]
 .ret)
 .skip))))
 (.bD none [bn 18 .add 8 1,mv 8 18] [0,1,7,8])))))))
 (ae [mi 4 (-1)] [4]
 .ret)))
def en:List ay:=[⟨4,true,none⟩]
theorem iM:aC Go.Proofs.Tryz.prog 249 19 en ez=true:=by kernel_rfl
theorem iP{s_0}{s:ab}{Q:List AV→ab→Prop}:ok (aM s_0) (fun r=>Q [.int .i64 r] s)→FN Go.Proofs.Tryz.prog 249 [.sl false 2 s_0.length (flat s_0),.fn 175 [] []] s Q:=by
 intro h
 refine FN.of (af mix) iM rfl (Nat.le_of_ble_eq_true rfl) ?_
 revert h
 rw[ez,en,aM]
 repeat'(first
  |with_reducible exact cF
  |with_reducible refine bj ?_ ?_
  |with_reducible refine cJ ?_
  |with_reducible refine ak (fun _(h:jC (ix s_0 t2)=some _)=>pB h) (fun r4=>?_)
  |((with_reducible refine bf (fun(t2:Int)=>⟨[(0,.sl false 2 s_0.length (flat s_0)),(1,.fn 175 [] []),(7,.int .i64 (s_0.length:Int)),(8,.int .i64 t2)],[],s⟩) ?_ ?_);(first|exact rfl|simp -implicitDefEqProofs only[go_sem,seval,Ni]);rintro J t2)
  |((with_reducible refine dY (fun(_:Unit)=>⟨[],[],s⟩) (fun J=>?_) ?_);rotate_left;rintro _)
  |simp -implicitDefEqProofs only[go_sem,seval,Ni])
theorem eD{s_0}{s:ab}{r:Int}(h:aM s_0=some r):FE Go.Proofs.Tryz.prog 249 [.sl false 2 s_0.length (flat s_0),.fn 175 [] []] s [.int .i64 r] s:=iP ⟨r,h,rfl,rfl⟩
def dW(x_0:Int):Option (Bool):=some (x_0 !=x_0)
def rX:IC:=
 (ae [cV 2 (.bool false)] [0]
 (ae [mv 3 0,mv 4 0,bt 5 .neq 3 4,mv 2 5] [2]
 .ret))
def qA:List ay:=[⟨2,true,none⟩]
theorem Dl:aC Go.Proofs.Tryz.prog 201 6 qA rX=true:=by kernel_rfl
theorem Dc{x_0}{s:ab}{Q:List AV→ab→Prop}:ok (dW x_0) (fun r=>Q [.bool r] s)→FN Go.Proofs.Tryz.prog 201 [.int .i64 x_0] s Q:=by
 intro h
 refine FN.of (af mix) Dl rfl (Nat.le_of_ble_eq_true rfl) ?_
 revert h
 rw[rX,qA,dW]
 repeat'(first
  |simp -implicitDefEqProofs only[go_sem,seval])
theorem rS{x_0}{s:ab}{r:Bool}(h:dW x_0=some r):FE Go.Proofs.Tryz.prog 201 [.int .i64 x_0] s [.bool r] s:=Dc ⟨r,h,rfl,rfl⟩
def bG(x_0:Int)(y_1:Int):Option (Int):=
 aP (dW x_0) fun r1=>
 aP (dW y_1) fun r2=>
 if r1 then
  if r2 then
   some 0
  else
   some (-1)
 else
  if r2 then
   some 1
  else
   if decide (x_0<y_1)then
    some (-1)
   else
    if decide (x_0>y_1)then
     some 1
    else
     some 0
def oo:IC:=
 (ae [mi 4 0] [0,1]
 (ae [mv 7 0,c1 8 201 7,mv 5 8] [0,1,5]
 (ae [mv 9 1,c1 10 201 9,mv 6 10] [0,1,5,6]
 (.seq (ae [mv 11 5] [0,1,6,11]
 (.cond (.t 11) (.seq (ae [mv 12 6] [12]
 (.cond (.t 12) (ae [mi 4 0] [4]
 .ret)
 .skip))
 (ae [mi 4 (-1)] [4]
 .ret))
 .skip))
 (.seq (ae [mv 13 6] [0,1,13]
 (.cond (.t 13) (ae [mi 4 1] [4]
 .ret)
 .skip))
 (.seq (ae [mv 14 0,mv 15 1,bt 16 .lss 14 15] [0,1,16]
 (.cond (.t 16) (ae [mi 4 (-1)] [4]
 .ret)
 .skip))
 (.seq (ae [mv 17 0,mv 18 1,bt 19 .gtr 17 18] [19]
 (.cond (.t 19) (ae [mi 4 1] [4]
 .ret)
 .skip))
 (ae [mi 4 0] [4]
 .ret))))))))
def nV:List ay:=[⟨4,true,none⟩]
theorem Aj:aC Go.Proofs.Tryz.prog 165 20 nV oo=true:=by kernel_rfl
theorem zD{x_0 y_1}{s:ab}{Q:List AV→ab→Prop}:ok (bG x_0 y_1) (fun r=>Q [.int .i64 r] s)→FN Go.Proofs.Tryz.prog 165 [.int .i64 x_0,.int .i64 y_1] s Q:=by
 intro h
 refine FN.of (af mix) Aj rfl (Nat.le_of_ble_eq_true rfl) ?_
 revert h
 rw[oo,nV,bG]
 repeat'(first
  |with_reducible refine ak (fun _(h:dW x_0=some _)=>rS h) (fun r1=>?_)
  |with_reducible refine ak (fun _(h:dW y_1=some _)=>rS h) (fun r2=>?_)
  |simp -implicitDefEqProofs only[go_sem,seval])
theorem gS{x_0 y_1}{s:ab}{r:Int}(h:bG x_0 y_1=some r):FE Go.Proofs.Tryz.prog 165 [.int .i64 x_0,.int .i64 y_1] s [.int .i64 r] s:=zD ⟨r,h,rfl,rfl⟩
def eY(vals_0:(List Int)):Option (Int):=
 Hg (
  mO (
   iter (fun(t3:Int)=>
    if decide (t3<(vals_0.length:Int))then
     aK (0≤t3∧t3<vals_0.length)<|
     if(ix vals_0 t3)!=0 then
      some (.inr (.inr (ix vals_0 t3)))
     else
      some (.inl (bz (t3+1)))
    else
     some (.inr (.inl ()))) 0) (fun(_:Unit)=>
   some (.inl ()))
  (fun(t5:Int)=>some (.inr t5))) (fun(_:Unit)=>
  some 0)
 (fun(t2:Int)=>some t2)
def zP:IC:=
 (ae [mi 2 0] [0]
 (ae [mi 3 0] [0,3]
 (.join [(3,false)] (ae [mt 6 0,le 7 0 6,mi 8 0] [3,6,7,8]
 (.block 0 (.loop [(3,false),(6,true),(7,false),(8,false)] (ae [bt 9 .lss 8 7] [3,6,7,8,9]
 (.seq (.cond (.t 9) .skip
 (.exit 0))
 (.seq (.block 1 (ae [ia 10 lZ 6 8,ld 11 1 10,mv 5 11] [3,5,6,7,8]
 (ae [mv 12 5,mv 13 3,bt 14 .neq 12 13] [3,5,6,7,8,14]
 (.cond (.t 14) (ae [mv 15 5,mv 2 15] [2]
 .ret)
 .skip))))
 (.bD none [bn 16 .add 8 1,mv 8 16] [3,6,7,8])))))))
 (ae [mv 17 3,mv 2 17] [2]
 .ret))))
def xR:List ay:=[⟨2,true,none⟩]
theorem KZ:aC Go.Proofs.Tryz.prog 164 18 xR zP=true:=by kernel_rfl
theorem KL{vals_0}{s:ab}{Q:List AV→ab→Prop}:ok (eY vals_0) (fun r=>Q [.int .i64 r] s)→FN Go.Proofs.Tryz.prog 164 [.sl false 1 vals_0.length (flat vals_0)] s Q:=by
 intro h
 refine FN.of (af mix) KZ rfl (Nat.le_of_ble_eq_true rfl) ?_
 revert h
 rw[zP,xR,eY]
 repeat'(first
  |((with_reducible refine bf (fun(t3:Int)=>⟨[(3,.int .i64 0),(6,.sl false 1 vals_0.length (flat vals_0)),(7,.int .i64 (vals_0.length:Int)),(8,.int .i64 t3)],[],s⟩) ?_ ?_);(first|exact rfl|simp -implicitDefEqProofs only[go_sem,seval]);rintro J t3)
  |((with_reducible refine dY (fun(_:Unit)=>⟨[(3,.int .i64 0)],[],s⟩) (fun J=>?_) ?_);rotate_left;rintro _)
  |simp -implicitDefEqProofs only[go_sem,seval])
theorem zE{vals_0}{s:ab}{r:Int}(h:eY vals_0=some r):FE Go.Proofs.Tryz.prog 164 [.sl false 1 vals_0.length (flat vals_0)] s [.int .i64 r] s:=KL ⟨r,h,rfl,rfl⟩
def oY(a_0:aj)(b_1:aj):Option (Int):=
 aP (bG a_0.bI b_1.bI) fun r1=>
 aP (bG a_0.To b_1.To) fun r2=>
 aP (eY [r1,r2]) fun r3=>
 some r3
def uc:IC:=
 (ae [i1 2 (.cW 2 (.t 0)),i1 3 (.cW 2 (.t 1)),mi 4 0] [2,3]
 (.seq (.bD (some 13) [fa 5 0 2,ld 6 1 5,fa 7 0 3,ld 8 1 7,c2 9 165 6 8,fa 10 1 2,ld 11 1 10,fa 12 1 3,ld 13 1 12,c2 14 165 11 13,i1 15 (.aY 1 2 [.int .i64 0,.int .i64 0] [(0,1,(.t 9)),(1,1,(.t 14))]),c1 16 164 15,mv 4 16] [4])
 .ret))
def sN:List ay:=[⟨4,true,none⟩]
theorem FD:aC Go.Proofs.Tryz.prog 213 17 sN uc=true:=by kernel_rfl
theorem GP{a_0 b_1}{s:ab}{Q:List AV→ab→Prop}:ok (oY a_0 b_1) (fun r=>Q [.int .i64 r] s)→FN Go.Proofs.Tryz.prog 213 [.agg [.int .i64 a_0.bI,.int .i64 a_0.To],.agg [.int .i64 b_1.bI,.int .i64 b_1.To]] s Q:=by
 intro h
 refine FN.of (af mix) FD rfl (Nat.le_of_ble_eq_true rfl) ?_
 revert h
 rw[uc,sN,oY]
 repeat'(first
  |with_reducible refine bH (fun _(h:bG a_0.bI b_1.bI=some _)=>gS h) (fun _=>rfl) (fun r1=>?_)
  |with_reducible refine bH (fun _(h:bG a_0.To b_1.To=some _)=>gS h) (fun _=>rfl) (fun r2=>?_)
  |with_reducible refine bH (fun _(h:eY [r1,r2]=some _)=>(by refine jV ?_ (zE h);simp -implicitDefEqProofs only[go_sem,seval])) (fun _=>rfl) (fun r3=>?_)
  |simp -implicitDefEqProofs only[go_sem,seval])
theorem GO{a_0 b_1}{s:ab}{r:Int}(h:oY a_0 b_1=some r):FE Go.Proofs.Tryz.prog 213 [.agg [.int .i64 a_0.bI,.int .i64 a_0.To],.agg [.int .i64 b_1.bI,.int .i64 b_1.To]] s [.int .i64 r] s:=GP ⟨r,h,rfl,rfl⟩
def CC:IC:=
 (ae [cV 2 (.arr 0 0 0 0)] [0]
 (.seq (ae [mv 3 0,i1 4 (.U2 false (.t 3))] [0,4]
 (.cond (.t 4) (ae [cV 2 (.arr 0 0 0 0)] [2]
 .ret)
 .skip))
 (ae [i1 5 (.iQ 2 0 [] []),mv 6 0,i1 7 (.ee 2 16 [.int .i64 0,.int .i64 0] (.t 5) (.t 6)),mv 2 7] [2]
 .ret)))
def AE:List ay:=[⟨2,true,none⟩]
theorem Np:aC Go.Proofs.Tryz.prog 203 8 AE CC=true:=by kernel_rfl
def Bb(l:List aj)(s:ab)(rs:List AV)(s':ab):Prop:=(∃b cap sp,rs=[.arr b 0 l.length cap]∧s b=none∧0<cap∧l.length≤cap∧(flat l++sp).length=cap*2∧views (flat l++sp)=flat l++sp∧s'=s.set b (.cells (flat l++sp)))∨(l=[]∧s'=s∧∃b,rs=[.arr b 0 0 0])
theorem zC{o:Bool}{l:List aj}{s:ab}(hr:l.length*16≤room):FN Go.Proofs.Tryz.prog 203 [.sl o 2 l.length (flat l)] s (Bb l s):=by
 refine FN.jU (FN.of (af mix) Np rfl (Nat.le_of_ble_eq_true rfl) ?_)
 generalize hQ:(fun rs s'=>∃s2,Sub s2 s'∧Bb l s rs s2)=Q
 have hq:∀rs s' s2,Sub s2 s'→Bb l s rs s2→Q rs s':=fun rs s' s2 h1 h2=>by rw[←hQ];exact⟨s2,h1,h2⟩
 rw[CC,AE]
 simp -implicitDefEqProofs only[go_sem,seval]
 intro v hv
 refine⟨fun h=>hq _ _ s (Sub.refl s) (.inr ⟨List.eq_nil_of_length_eq_zero (hv (by simpa using h)),rfl,0,rfl⟩),fun _ b1 hb1=>?_⟩
 rw[ft,aD]
 by_cases hl:l=[]
 ·subst hl
  refine w5 rfl rfl (Nat.le_refl 0) ?_
  simp -implicitDefEqProofs only[go_sem,seval]
  exact hq _ _ s ((Sub.refl s).set hb1) (.inr ⟨rfl,rfl,_,rfl⟩)
 ·have hn:0<l.length:=List.length_pos_iff.2 hl
  refine fe rfl rfl (by omega) (by rw[Nat.zero_add];exact hr) fun b2 cap hb2 hcap=>?_
  rw[Nat.zero_add]at hcap
  have hz:(List.replicate (cap -(0+l.length)) [.int .i64 0,.int .i64 0]).flatten=flat (List.replicate (cap -l.length) (aj.mk 0 0:aj)):=by rw[fm,Nat.zero_add];rfl
  rw[hz]
  simp -implicitDefEqProofs only[go_sem,seval,Nat.zero_add,List.nil_append]
  have hb2':s b2=none:=((Sub.refl s).set hb1).none hb2
  refine hq _ _ _ (Sub.adT ((Sub.refl s).set hb1)) (.inl ⟨b2,cap,_,rfl,hb2',by omega,hcap,?_,?_,rfl⟩)
  ·rw[List.length_append,ao,ao,List.length_replicate]
   show l.length*2+(cap -l.length)*2=cap*2
   omega
  ·rw[rM,aD,aD]
theorem MQ{o:Bool}{l:List aj}{s:ab}(hr:l.length*16≤room):FE Go.Proofs.Tryz.prog 203 [.sl o 2 l.length (flat l)] s [.us 2 l.length (flat l)] s:=
 FN.UB (ao l) ⟨rfl,rfl⟩ ((zC hr).mono fun rs s' h=>by
  rcases h with⟨b,cap,sp,h1,h2,h3,h4,h5,h6,h7⟩|⟨h1,h2,h3⟩
  ·exact .inl ⟨b,cap,sp,h1,by rw[h7];exact bS,h3,h4,h5,h6,by rw[h7,jb h2];exact Sub.refl s⟩
  ·subst h1;exact .inr ⟨rfl,rfl,by rw[h2];exact Sub.refl s,h3⟩)
def Bp:IC:=
 (ae [cV 4 (.arr 0 0 0 0)] [0,1]
 (ae [mv 8 0,mv 9 1,c2 10 249 8 9,mv 5 10] [0,1,5]
 (.seq (ae [mv 11 5,bn 12 .eql 11 (-1)] [0,1,5,12]
 (.cond (.t 12) (ae [mv 13 0,mv 4 13] [4]
 .ret)
 .skip))
 (.seq (ae [mv 14 5,bn 15 .add 14 1,mv 6 15] [0,1,5,6]
 (.block 0 (.loop [(0,false),(1,false),(5,false),(6,false)] (.seq (ae [mv 16 6,mv 17 0,le 18 0 17,bt 19 .lss 16 18] [0,1,5,6,19]
 (.cond (.t 19) .skip
 (.exit 0)))
 (.seq (.block 1 (ae [mv 22 0,mv 23 6,ia 24 [.int .i64 0,.int .i64 0] 22 23,lm 25 2 24,i1 7 (.aq [.int .i64 0,.int .i64 0]),st 2 7 25] [0,1,5,6,7]
 (ae [mv 26 1,lm 27 2 7,i1 28 (.b6 (.t 26) [(.t 27)]),no 29 28] [0,1,5,6,7,29]
 (.cond (.t 29) (ae [mv 30 0,mv 31 5,lm 32 2 7,ia 33 [.int .i64 0,.int .i64 0] 30 31,st 2 33 32] [0,1,5,6]
 (.bD none [mv 34 5,bn 35 .add 34 1,mv 5 35] [0,1,5,6]))
 .skip))))
 (.bD none [mv 20 6,bn 21 .add 20 1,mv 6 21] [0,1,5,6]))))))
 (ae [mv 36 0,mv 37 5,px 38 2 36 37,i0 (.kZ [.int .i64 0,.int .i64 0] (.t 38))] [0,5]
 (ae [mv 39 0,mv 40 5,Mz 41 2 39 40,mv 4 41] [4]
 .ret))))))
def zc:List ay:=[⟨4,true,none⟩]
theorem JT:aC Go.Proofs.Tryz.prog 211 42 zc Bp=true:=by kernel_rfl
end Go.AB
end
section
set_option maxRecDepth 4000
namespace Go.AB
open Go
theorem EX{T:Type}[aH T]{w:World}{R R':Nat→Nat}{b cap f:Nat}{l:List T}{vs:Array Value}(mono:∀a u,VR w R a u→VR w R' a u)(hv:∀u,VR w R (.arr b 0 l.length cap) u→VR w R' (.sl false 2 l.length (flat l)) u)
 (ha:kF w R [.arr b 0 l.length cap,.fn f [] []] vs):kF w R' [.sl false 2 l.length (flat l),.fn f [] []] vs:=by
 refine⟨ha.1,fun j a v hj hvs=>?_⟩
 match j,hj with
 |0,hj=>cases hj;exact hv v (ha.2 0 _ v rfl hvs)
 |1,hj=>cases hj;exact mono _ _ (ha.2 1 _ v rfl hvs)
theorem xa{b cap:Nat}{l:List aj}{sp:List AV}{r:Int}{s:ab}{Q:List AV→ab→Prop}(hs:s b=some (.cells (flat l++sp)))(hn:l.length≤cap)(h:aM l=some r)(hq:Q [.int .i64 r] s):
 FN Go.Proofs.Tryz.prog 249 [.arr b 0 l.length cap,.fn 175 [] []] s Q:=by
 refine FN.borrow b (l.length*2) (args':=[.sl false 2 l.length (flat l),.fn 175 [] []]) (FE.app (eD h) ⟨rfl,hq⟩) fun G w vs hst ha=>?_
 refine EX (fun a u h=>h.mono (fun i=>?_) fun _ _ _=>rfl) (fun u hu=>En hst (ao l) hn (aD l) (fun _=>⟨sp,hs⟩) hu (by decide)) ha
 show G.R i≤if i=b∧b<w.heap.size then l.length*2 else G.R i
 split
 ·rename_i e
  obtain⟨q2,q3,_⟩:=hst b _ hs
  rw[e.1,q3];exact Nat.zero_le _
 ·exact Nat.le_refl _
theorem SU{w:World}{R:Nat→Nat}{b off sz:Nat}{v:Value}(hv:VR w R (.arr b off 0 0) v):VR w R (.sl false sz 0 []) v:=by
 rcases VR.bQ hv with e|⟨_,_,e⟩
 ·rw[e];exact .sle sz _ _
 ·rw[e];exact .slnil false sz
theorem HA{b off:Nat}{r:Int}{s:ab}{Q:List AV→ab→Prop}(h:aM []=some r)(hq:Q [.int .i64 r] s):
 FN Go.Proofs.Tryz.prog 249 [.arr b off 0 0,.fn 175 [] []] s Q:=
 FN.args (FE.app (eD h) hq) fun G w vs _ ha=>⟨ha.1,fun j a v hj hv=>by
  match j,hj with
  |0,hj=>cases hj;exact SU (ha.2 0 _ v rfl hv)
  |1,hj=>cases hj;exact ha.2 1 _ v rfl hv⟩
theorem Kl{s:ab}{b:Nat}{o:SO}(h:s b=some o):s.set b o=s:=by
 funext c
 unfold ab.set
 split
 ·rename_i e;subst e;rw[h]
 ·rfl
def C6(x:aj):Bool:=(decide (x.bI<0))||(decide (x.To≤x.bI))
theorem aae(x:aj)(s:ab):FE Go.Proofs.Tryz.prog 175 [.agg [.int .i64 x.bI,.int .i64 x.To]] s [.bool (C6 x)] s:=pB rfl
theorem OX{b cap i:Nat}{l:List aj}{sp:List AV}{s:ab}{Q:List AV→ab→Prop}(hs:s b=some (.cells (flat l++sp)))(hl:(flat l++sp).length=cap*2)(hn:l.length≤cap)(hbig:(l.length:Int)≤9223372036854775807)
 (hidx:aM l=some (i:Int))(hi:i<l.length)(hk:(l.take (i+1)).filter (fun x=>!C6 x)=l.take i)
 (hq:∀sp',(flat (l.filter (fun x=>!C6 x))++sp').length=cap*2→Q [.arr b 0 (l.filter (fun x=>!C6 x)).length cap] (s.set b (.cells (flat (l.filter (fun x=>!C6 x))++sp')))):
 FN Go.Proofs.Tryz.prog 211 [.arr b 0 l.length cap,.fn 175 [] []] s Q:=by
 refine FN.of (af mix) JT rfl (Nat.le_of_ble_eq_true rfl) ?_
 rw[Bp,zc]
 simp -implicitDefEqProofs only[go_sem,seval]
 refine xa hs hn hidx ?_
 simp -implicitDefEqProofs only[go_sem,seval]
 have e1:(((i:Int))==-1)=false:=by rw[beq_eq_false_iff_ne];omega
 rw[e1]
 refine⟨fun h=>(by cases h),fun _=>?_⟩
 have w1:bz ((i:Int)+1)=((i+1:Nat):Int):=by rw[aS (by omega) (by omega)];omega
 rw[w1]
 refine⟨fun τ=>∃(a j:Nat)(l':List aj),τ=⟨[(0,.arr b 0 l.length cap),(1,.fn 175 [] []),(5,.int .i64 (a:Int)),(6,.int .i64 (j:Int))],[],s.set b (.cells (flat l'++sp))⟩∧l'.length=l.length∧a<j∧j≤l.length∧l'.take a=(l.take j).filter (fun x=>!C6 x)∧l'.drop j=l.drop j∧a=((l.take j).filter (fun x=>!C6 x)).length,
  fun τ=>match look τ.e 6 with|.int _ j=>l.length -j.toNat|_=>0,?_,?_⟩
 ·refine⟨i,i+1,l,?_,rfl,by omega,by omega,hk.symm,rfl,?_⟩
  ·rw[Kl hs];rfl
  ·rw[hk];simp;omega
 ·rintro τ ⟨a,j,l',rfl,h1,h2,h3,h4,h5,h6⟩
  have hlen:(flat l'++sp).length=cap*2:=by rw[←hl,List.length_append,List.length_append,ao,ao,h1]
  simp -implicitDefEqProofs only[go_sem,seval,bS]
  refine⟨fun hj=>⟨⟨by omega,of_decide_eq_true hj⟩,?_⟩,fun hj=>⟨by omega,?_⟩⟩
  ·have hj:=of_decide_eq_true hj
   have hj':j<l.length:=by omega
   have hx:∃x,l.drop j=x::l.drop (j+1)∧(l.take (j+1)).filter (fun x=>!C6 x)=(l.take j).filter (fun x=>!C6 x)++(if C6 x then[]else[x]):=by
    refine⟨l[j],List.drop_eq_getElem_cons hj',?_⟩
    rw[List.take_succ_eq_append_getElem hj',List.filter_append]
    cases hg:C6 l[j]<;>simp[hg]
   obtain⟨x,hx1,hx2⟩:=hx
   have hd:decide (j*2+2≤(flat l').length+sp.length)=true:=decide_eq_true (by rw[ao,h1];show j*2+2≤l.length*2+_;omega)
   have hv:views (AB.sub (flat l'++sp) (j*2) 2)=[.int .i64 x.bI,.int .i64 x.To]:=by
    have:=fH l' sp 2 j 1 rfl (by omega)
    rw[Nat.one_mul]at this
    rw[this,h5,hx1];rfl
   rw[hd,hv]
   simp -implicitDefEqProofs only[go_sem,seval]
   refine⟨(by kernel_rfl),FE.app (aae x _) ?_⟩
   have w2:bz ((j:Int)+1)=((j+1:Nat):Int):=by rw[aS (by omega) (by omega)];omega
   have w3:bz ((a:Int)+1)=((a+1:Nat):Int):=by rw[aS (by omega) (by omega)];omega
   simp -implicitDefEqProofs only[go_sem,seval,bS,w2,w3]
   have st:=fG l' [x] sp 2 a rfl (by simp;omega)
   have d1:l'.drop (j+1)=l.drop (j+1):=by rw[←List.drop_drop,←List.drop_drop,h5]
   have ht:(l'.take a++[x]).length=a+1:=by simp;omega
   refine⟨fun hg=>⟨⟨by omega,by omega⟩,by rw[ao,h1];show a*2+2≤l.length*2+_;omega,⟨a+1,j+1,l'.take a++[x]++l'.drop (a+1),?_,?_,by omega,by omega,?_,?_,?_⟩,by omega⟩,
    fun hg=>⟨⟨a,j+1,l',rfl,h1,by omega,by omega,?_,d1,?_⟩,by omega⟩⟩
   ·rw[show setAt (flat l'++sp) (a*2) [AV.int .i64 x.bI,AV.int .i64 x.To]=_ from st];rfl
   ·rw[List.length_append,ht,List.length_drop];omega
   ·rw[List.take_append_of_le_length (by omega),List.take_of_length_le (by omega),hx2,h4]
    have:C6 x=false:=by cases h:C6 x<;>simp_all
    simp[this]
   ·rw[List.drop_append,List.drop_of_length_le (by omega),List.nil_append,ht,List.drop_drop,show a+1+(j+1 -(a+1))=j+1 by omega,d1]
   ·have:C6 x=false:=by cases h:C6 x<;>simp_all
    rw[hx2,List.length_append,←h6,this];rfl
   ·have:C6 x=true:=by cases h:C6 x<;>simp_all
    rw[h4,hx2,this];simp
   ·have:C6 x=true:=by cases h:C6 x<;>simp_all
    rw[hx2,this,h6];simp
  ·have hj:=of_decide_eq_false hj
   obtain rfl:j=l.length:=by omega
   rw[eN (by omega)]
   have hsp:(flat l'++sp).length=cap*2:=by omega
   refine yB rfl bS (by
    rw[hsp]
    show 0+a*2+(l.length -a)*2≤cap*2
    omega) ?_
   have hz:(List.replicate (l.length -a) [AV.int .i64 0,AV.int .i64 0]).flatten=flat (List.replicate (l.length -a) (aj.mk 0 0)):=by rw[fm];rfl
   have st:=fG l' (List.replicate (l.length -a) (aj.mk 0 0)) sp 2 a rfl (by simp;omega)
   have e3:l'.drop (a+(List.replicate (l.length -a) (aj.mk 0 0)).length)=[]:=by rw[List.drop_eq_nil_iff];simp;omega
   rw[e3,List.append_nil,h4,List.take_length,bO,List.append_assoc]at st
   rw[List.take_length]at h6
   rw[Nat.zero_add,hz,st]
   generalize hF:l.filter (fun x=>!C6 x)=F at hq h6
   have hq':=hq (flat (List.replicate (l.length -a) (aj.mk 0 0))++sp) (by
    rw[List.length_append,List.length_append,ao,ao,List.length_replicate,←h6]
    rw[List.length_append,ao,h1]at hsp
    have q1:aH.w aj=2:=rfl
    rw[q1]at hsp⊢
    omega)
   rw[←h6]at hq'
   generalize flat (List.replicate (l.length -a) (aj.mk 0 0))++sp=sp' at hq'
   simp -implicitDefEqProofs only[go_sem,seval]
   exact⟨by omega,hq'⟩
theorem Cx{b off n cap:Nat}{s:ab}{Q:List AV→ab→Prop}(hx:∀Q:List AV→ab→Prop,Q [.int .i64 (-1)] s→FN Go.Proofs.Tryz.prog 249 [.arr b off n cap,.fn 175 [] []] s Q)(hq:Q [.arr b off n cap] s):
 FN Go.Proofs.Tryz.prog 211 [.arr b off n cap,.fn 175 [] []] s Q:=by
 refine FN.of (af mix) JT rfl (Nat.le_of_ble_eq_true rfl) ?_
 rw[Bp,zc]
 simp -implicitDefEqProofs only[go_sem,seval]
 refine hx _ ?_
 simp -implicitDefEqProofs only[go_sem,seval]
 exact⟨fun _=>hq,fun h=>(by cases h)⟩
theorem JL(l:List aj)(hb:l.length<4611686018427387904):
 aM l=some (match l.findIdx? C6 with|some i=>(i:Int)|none=>-1):=by
 unfold aM
 have step:∀k(hk:k<l.length),jC (ix l (k:Int))=some (C6 l[k]):=fun k hk=>by
  have e:ix l (k:Int)=l[k]:=FL (i:=(k:Int)) hk
  rw[e];rfl
 cases h:l.findIdx? C6 with
 |none=>
  rw[List.findIdx?_eq_none_iff]at h
  refine gQ (z:=.inl ()) (eV (z:=.inl ()) (eA l.length hb (fun k hk=>?_) ?_) rfl) rfl
  ·refine cC (decide_eq_true (by omega)) (bc ⟨by omega,by omega⟩ (cg (step k hk) ?_))
   rw[h _ (List.getElem_mem hk)];rfl
  ·exact bP (by simp) rfl
 |some i=>
  rw[List.findIdx?_eq_some_iff_getElem]at h
  obtain⟨hi,h1,h2⟩:=h
  refine gQ (z:=.inr (i:Int)) (eV (z:=.inr (i:Int)) (eA i (by omega) (fun k hk=>?_) ?_) rfl) rfl
  ·refine cC (decide_eq_true (by omega)) (bc ⟨by omega,by omega⟩ (cg (step k (by omega)) ?_))
   have:=h2 k hk
   rw[Bool.not_eq_true]at this
   rw[this];rfl
  ·refine cC (decide_eq_true (by omega)) (bc ⟨by omega,by omega⟩ (cg (step i hi) ?_))
   rw[h1];rfl
def full(l:List aj):List aj:=l.filter fun x=>!C6 x
theorem OZ{l:List aj}{s:ab}{Q:List AV→ab→Prop}(hb:l.length*16≤room){b cap:Nat}{sp:List AV}(hs:s b=some (.cells (flat l++sp)))(hn:l.length≤cap)(hl:(flat l++sp).length=cap*2)
 (hq:∀sp',(flat (full l)++sp').length=cap*2→Q [.arr b 0 (full l).length cap] (s.set b (.cells (flat (full l)++sp')))):FN Go.Proofs.Tryz.prog 211 [.arr b 0 l.length cap,.fn 175 [] []] s Q:=by
 have hb':l.length<4611686018427387904:=by unfold room at hb;omega
 have hidx:=JL l hb'
 cases h:l.findIdx? C6 with
 |none=>
  rw[h]at hidx
  have hall:full l=l:=by
   rw[List.findIdx?_eq_none_iff]at h
   exact List.filter_eq_self.2 fun x hx=>by simp[h x hx]
  rw[hall]at hq
  refine Cx (fun Q' hq'=>xa hs hn hidx hq') ?_
  have:=hq sp hl
  rwa[Kl hs]at this
 |some i=>
  rw[h]at hidx
  rw[List.findIdx?_eq_some_iff_getElem]at h
  obtain⟨hi,h1,h2⟩:=h
  refine OX hs hl hn (by omega) hidx hi ?_ hq
  rw[List.take_succ_eq_append_getElem hi,List.filter_append]
  have e1:(l.take i).filter (fun x=>!C6 x)=l.take i:=by
   refine List.filter_eq_self.2 fun x hx=>?_
   obtain⟨k,hk,rfl⟩:=List.getElem_of_mem hx
   rw[List.length_take]at hk
   rw[List.getElem_take]
   have:=h2 k (by omega)
   simpa using this
  rw[e1]
  simp[h1]
theorem OY{b off:Nat}{s:ab}{Q:List AV→ab→Prop}(hq:Q [.arr b off 0 0] s):FN Go.Proofs.Tryz.prog 211 [.arr b off 0 0,.fn 175 [] []] s Q:=Cx (fun Q' hq'=>HA (r:=-1) (JL [] (by decide)) hq') hq
end Go.AB
end
section
namespace Go.AB
open Go
def Form(l:List aj):Prop:=(∀x∈l,0≤x.bI∧x.bI<x.To)∧l.Pairwise fun x y=>x.To<y.bI
theorem Form.tail{x:aj}{l:List aj}(h:Form (x::l)):Form l:=⟨fun y hy=>h.1 y (List.mem_cons_of_mem _ hy),(List.pairwise_cons.1 h.2).2⟩
def eQ(gap:Int)(out:List aj)(x:aj):List aj:=match out.getLast? with
 |none=>[x]
 |some y=>if bz (x.bI -y.To)≤gap then out.dropLast++[⟨y.bI,max y.To x.To⟩]else out++[x]
def QT(gap:Int)(l:List aj):List aj:=l.foldl (eQ gap) []
def leS(x y:aj):Prop:=x.bI<y.bI∨(x.bI=y.bI∧x.To≤y.To)
def Asc(l:List aj):Prop:=l.Pairwise leS
theorem Ic(gap:Int)(O:List aj)(y x:aj):eQ gap (O++[y]) x=if bz (x.bI -y.To)≤gap then O++[⟨y.bI,max y.To x.To⟩]else O++[y]++[x]:=by
 unfold eQ
 rw[List.getLast?_append]
 simp
end Go.AB
end
