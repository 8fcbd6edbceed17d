/- A part of the proof: Px, Py, Rg0, Rg1, Spm, Rg2, Rg3. -/
import Derived.Test.YtkeagffgdajggaaGreatSo14
import Derived.Test.YtkeagffgdajggaaGreatSo17
import Derived.Test.YtkeagffgdajggaaGreatSo13
import Derived.Test.YtkeagffgdajggaaGreatSo18
import Derived.Test.YtkeagffgdajggaaGreatSo12
set_option linter.unusedSimpArgs false
set_option linter.unusedVariables false
section
set_option maxRecDepth 4000
namespace Go.AB
open Go
attribute[-go_sem] Nat.add_zero pN dc dv eu cV du
def GM:IC:=
 (aj [i1 2 (.qU 1 (.t 0)),i1 3 (.qU 1 (.t 1)),dT 4 (.nj)] [2,3]
 (.seq (aj [ld 5 1 3,bn 6 .lss 5 1] [2,3,6]
 (.cond (.t 6) .dead
 .skip))
 (aj [i1 8 (.lC 262 [] [(.t 2),(.t 3)]),mv 4 8] [4]
 .ret)))
def Ef:List bj:=[⟨4,true,none⟩]
theorem MT:bG Go.Proofs.Tryz.prog 222 9 Ef GM=true:=by kernel_rfl
def A4:IC:=
 (.cU none [dT 2 (.arr 0 0 0 0),mi 3 0] [0])
def A5:IC:=(.cU none [i1 4 (.gV [.arr 0 0 0 0])] [0,4])
def A6:IC:=
 (.cU none [mv 7 0,i1 8 (.call 222 [(.t 7),(.c (.int .i64 2))])] [4,8])
def uU:IC:=
 (aj [ld 14 1 4,i1 15 (.call 223 [(.t 14),(.c (.fn 224 [] []))])] [4]
 (.seq (aj [mi 6 1] [4,6]
 (.block 2 (.loop [(4,false),(6,false)] (.seq (aj [mv 16 6,ld 17 1 4,le 18 0 17,bt 19 .lss 16 18] [4,6,19]
 (.cond (.t 19) .skip
 (.exit 2)))
 (.seq (.block 3 (.seq (.cU (some 16) [ld 22 1 4,mv 23 6,ia 24 [.sl false 4 0 []] 22 23,ld 25 1 24,i1 26 (.indexAddr Kp (.t 25) (.c (.int .i64 0))),fa 27 2 26,ld 28 1 27,ld 29 1 4,mv 30 6,bn 31 .sub 30 1,ia 32 [.sl false 4 0 []] 29 31,ld 33 1 32,i1 34 (.indexAddr Kp (.t 33) (.c (.int .i64 0))),fa 35 2 34,ld 36 1 35,bt 37 .eql 28 36] [4,6,37])
 (.cond (.t 37) (aj [dT 2 (.sl true 4 0 []),mi 3 16] [2,3]
 .ret)
 .skip)))
 (.cU none [mv 20 6,bn 21 .add 20 1,mv 6 21] [4,6]))))))
 (aj [ld 38 1 4,c1 39 226 38,i1 2 (.K7 4 true (.t 39)),mi 3 0] [2,3]
 .ret)))
def uV:IC:=
 (.block 1 (.cU none [ld 10 1 4,mv 11 5,i1 12 (.b5 1 1 [.sl false 4 0 []] [(0,1,(.t 11))]),i1 13 (.gh 1 24 [.sl false 4 0 []] (.t 10) (.t 12)),st 1 4 13] []))
def mr:List bj:=[⟨2,false,none⟩,⟨3,true,none⟩]
abbrev z6(l:List aa):AV:=.sl false 4 l.length (flat l)
theorem Mn{s:ab}{l:List aa}{Q:List AV→ab→Prop}(hq:∀Bs,s Bs=none→∀Bn,(s.set Bs (.cells [z6 l])) Bn=none→Q [.fn 262 [] [.ref Bs 0,.ref Bn 0]] ((s.set Bs (.cells [z6 l])).set Bn (.cells [.int .i64 2]))):FN Go.Proofs.Tryz.prog 222 [z6 l,.int .i64 2] s Q:=by
 refine FN.of (ay mix) MT rfl (Nat.le_of_ble_eq_true rfl) ?_
 rw[GM,Ef]
 have h0:decide ((2:Int)<1)=false:=rfl
 simp -implicitDefEqProofs only[go_sem,start,ag,an,aA,aD,aB,aC,Nat.reduceBEq,Nat.reduceAdd,Nat.reduceMul,Nat.reduceLeDiff,Nat.reduceEqDiff,Nat.reduceBNe,Nat.ble_eq,UInt8.reduceToNat,UInt32.reduceToNat]
 intro Bs h1 Bn h2
 simp -implicitDefEqProofs only[go_sem,start,ag,an,aA,aD,aB,aC,Nat.reduceBEq,Nat.reduceAdd,Nat.reduceMul,Nat.reduceLeDiff,Nat.reduceEqDiff,Nat.reduceBNe,Nat.ble_eq,UInt8.reduceToNat,UInt32.reduceToNat,h0,Bool.true_eq_false,Bool.false_eq_true,false_implies,true_implies,true_and,and_true]
 exact hq Bs h1 Bn h2
def cA:Code→Code
 |.seq a _=>a
 |c=>c
def cB:Code→Code
 |.seq _ b=>b
 |c=>c
def ZZ:Code→Code
 |.rangeFunc _ _ a _=>a
 |c=>c
def Zt:Code→Code
 |.rangeFunc _ _ _ b=>b
 |c=>c
def ZO:Code→Code
 |.block _ c=>c
 |c=>c
def Ty:Code→Array Oper
 |.region _ ops _=>ops
 |_=> #[]
def MM:IC→List aq
 |.block _ (.cU _ l _)=>l
 |_=>[]
noncomputable def BE:Code:=(Go.Proofs.Tryz.f182.body).getD .skip
noncomputable def ZU:Code:=cA BE
noncomputable def ZV:Code:=cA (cB BE)
noncomputable def ZW:Code:=cA (cA (cB (cB BE)))
noncomputable def WH:Code:=ZO (cB (cA (cB (cB BE))))
noncomputable def ZX:Code:=cB (cB (cB BE))
noncomputable def PF:Array Oper:=Ty (ZO (Zt WH))
theorem Je:Go.Proofs.Tryz.f182.body=some (.seq ZU (.seq ZV (.seq (.seq ZW (.block 0 (.rangeFunc (.tmp 8) #[9] (ZZ WH) (Zt WH)))) ZX))):=by kernel_rfl
theorem RN:Zt WH=.block 1 (.region 4 PF false):=by kernel_rfl
theorem Vv:ZZ WH=.region 3 #[{dst:=some 5,op:=.assign (.tmp 9),type:=30,pos:= "parse.go:116",after:= #[],guard:=none}] false:=by kernel_rfl
theorem Jf:j7 Go.Proofs.Tryz.prog 40 ZU A4=true:=by kernel_rfl
theorem Jg:j7 Go.Proofs.Tryz.prog 40 ZV A5=true:=by kernel_rfl
theorem Jh:j7 Go.Proofs.Tryz.prog 40 ZW A6=true:=by kernel_rfl
theorem Ji:j7 Go.Proofs.Tryz.prog 40 ZX uU=true:=by kernel_rfl
theorem Jj:cd Go.Proofs.Tryz.prog 40 PF PF.toList (MM uV)=true:=by kernel_rfl
theorem Hm:PF.toList.all wK=true:=by kernel_rfl
theorem Lo:iW Go.Proofs.Tryz.prog Go.Proofs.Tryz.f182.results.toList mr=true:=by kernel_rfl
theorem No:Go.Proofs.Tryz.f182.ntmps=40:=by kernel_rfl
def iL(l:List aa)(k:Nat):List aa:=(l.drop (2*k)).take 2
def gC(l:List aa)(k:Nat):List VL:=(List.range k).map (iL l)
theorem vL(l:List aa)(k:Nat):gC l (k+1)=gC l k++[iL l k]:=by unfold gC;rw[List.range_succ,List.map_append];rfl
theorem yA(l:List aa)(k:Nat):(gC l k).length=k:=by simp[gC]
theorem uM(l:List aa)(k:Nat)(h:2*k+2≤l.length):(iL l k).length=2:=by unfold iL;rw[List.length_take,List.length_drop];omega
theorem Mo{w:World}{R:Nat→Nat}{l:List aa}{b off k:Nat}(hR:off+(flat l).length≤R b)(ha:At w R b off (flat l))(hk:2*k+2≤l.length):VR w R (z6 (iL l k)) (eP b off k):=by
 obtain⟨u,h1,h2,h3⟩:=ha
 have hs:=jF l 4 (2*k) 2 rfl
 have hl:(flat (iL l k)).length=2*4:=by rw[aK,uM l k hk];rfl
 have hfl:(flat l).length=l.length*4:=aK l
 have hg:∀(j:Nat)(c:AV),(flat (iL l k))[j]? =some c→(flat l)[2*k*4+j]? =some c:=fun j c hj=>by
  unfold iL at hj
  rw[←hs,xd]at hj
  split at hj
  ·exact hj
  ·cases hj
 unfold z6 eP
 rw[uM l k hk]
 refine .sl false 4 2 _ b _ 2 (fun j=>u (2*k*4+j)) (fun c hc=>?_) hl (by omega) (Nat.le_refl _) (fun j c hj=>?_) (fun j c hj=>h2 _ c (hg j c hj))
 ·obtain⟨j,hj⟩:=List.mem_iff_getElem?.1 hc
  exact h3 c (List.mem_of_getElem? (hg j c hj))
 ·rw[Nat.add_assoc];exact h1 _ c (hg j c hj)
def Y8(ls:List VL)(i:Int):Option (Int⊕Bool):=
 bif decide (i<ls.length)then bq (1≤i∧i<2^62∧0<(ix ls i).length∧0<(ix ls (i -1)).length)<|
  bif(ix (ix ls i) 0).S.b==(ix (ix ls (i -1)) 0).S.b then some (.inr true)else some (.inl (i+1))
 else some (.inr false)
def x7(l:List aa):Option (List aa×Int):=
 bq (0<l.length∧l.length<40∧l.length % 2=0)<|cj (K8 (gC l (l.length/2)) 0 ((l.length/2:Nat):Int)) fun two=>
 bq ((two.all fun c=>decide (0<c.length))=true∧two.length=l.length/2∧two.flatten.length<1000)<|cj (iter (Y8 two) 1) fun d=>
 bif d then some ([],16)else some (two.flatten,0)
theorem NS{s:ab}{r:cN}{ls:List VL}{B:Nat}{o o':SO}(h:gj s r ls)(hB:s B=some o):(fX s r ls).set B o'=fX (s.set B o') r ls∧gj (s.set B o') r ls:=by
 cases r with
 |none=>exact⟨rfl,h⟩
 |some x=>
  obtain⟨rb,cap,sp⟩:=x
  obtain⟨h1,h2⟩:=h
  have hne:B≠rb:=fun e=>by subst e;rw[h1]at hB;cases hB
  refine⟨set_comm hne,⟨by rw[bD hne.symm];exact h1,h2⟩⟩
theorem Jk{s s1:ab}{B2 rb cap:Nat}{sp:List AV}{ls:List VL}{own:Bool}{Q:List AV→ab→Prop}(hB:s1 B2=some (.cells [.arr rb 0 ls.length cap]))(hrb:s1 rb=none)(hs:Sub s s1)(hl:ls.length<20)(hl0:0<ls.length)
 (hm:ok (K8 ls 0 ls.length) fun two=>(∀c∈two,0<c.length)∧two.length=ls.length∧two.flatten.length<1000∧ok (iter (Y8 two) 1) fun d=>(d=true→∀s',Sub s s'→Q [.sl false 4 0 [],.int .i64 16] s')∧(d=false→∀s',Sub s s'→Q [.sl false 4 two.flatten.length (flat two.flatten),.int .i64 0] s')):
 gP Go.Proofs.Tryz.prog uU (aC mr Q) ⟨[(4,.ref B2 0)],[],s1.set rb (.cells (flat ls++sp))⟩:=by
 have hroom:room=140737488355328:=rfl
 have hne:B2≠rb:=fun e=>by subst e;rw[hrb]at hB;cases hB
 have hB':∀cs,(s1.set rb (.cells cs)) B2=some (.cells [.arr rb 0 ls.length cap]):=fun cs=>by rw[bD hne];exact hB
 rw[uU,mr]
 simp -implicitDefEqProofs only[go_sem,start,ag,an,aA,aD,aB,aC,Nat.reduceBEq,Nat.reduceAdd,Nat.reduceMul,Nat.reduceLeDiff,Nat.reduceEqDiff,Nat.reduceBNe,Nat.ble_eq,UInt8.reduceToNat,UInt32.reduceToNat,hB']
 refine LH hrb hl (aS hm fun two⟨hpos,hlen,hfl,hn⟩=>?_)
 rw[←hlen]
 rw[←hlen]at hB' hl hl0
 simp -implicitDefEqProofs only[go_sem,start,ag,an,aA,aD,aB,aC,Nat.reduceBEq,Nat.reduceAdd,Nat.reduceMul,Nat.reduceLeDiff,Nat.reduceEqDiff,Nat.reduceBNe,Nat.ble_eq,UInt8.reduceToNat,UInt32.reduceToNat]
 refine dp (fun(i:Int)=>(⟨[(4,.ref B2 0),(6,.int .i64 i)],[],s1.set rb (.cells (flat two++sp))⟩:St)) rfl ?_ hn
 ·intro J i hb
  unfold Y8 at hb
  cases hlt:decide (i<two.length)with
  |false=>
   rw[hlt,cond_false,bk]at hb
   simp -implicitDefEqProofs only[go_sem,start,ag,an,aA,aD,aB,aC,Nat.reduceBEq,Nat.reduceAdd,Nat.reduceMul,Nat.reduceLeDiff,Nat.reduceEqDiff,Nat.reduceBNe,Nat.ble_eq,UInt8.reduceToNat,UInt32.reduceToNat,hB',hlt,Bool.true_eq_false,Bool.false_eq_true,false_implies,true_implies,true_and,and_true]
   simp only[vK]at hb
   refine KQ hrb hpos (by omega) (by omega) fun s' r' hs' hr'=>?_
   simp -implicitDefEqProofs only[go_sem,start,ag,an,aA,aD,aB,aC,Nat.reduceBEq,Nat.reduceAdd,Nat.reduceMul,Nat.reduceLeDiff,Nat.reduceEqDiff,Nat.reduceBNe,Nat.ble_eq,UInt8.reduceToNat,UInt32.reduceToNat]
   refine Ag rfl hr' rfl ?_
   simp -implicitDefEqProofs only[go_sem,start,ag,an,aA,aD,aB,aC,Nat.reduceBEq,Nat.reduceAdd,Nat.reduceMul,Nat.reduceLeDiff,Nat.reduceEqDiff,Nat.reduceBNe,Nat.ble_eq,UInt8.reduceToNat,UInt32.reduceToNat]
   exact hb.2 trivial s' fun b o h=>hs' b o ((hs.set hrb) b o h)
  |true=>
   rw[hlt,cond_true,gY]at hb
   obtain⟨⟨h1,h2,h3,h4⟩,hb⟩:=hb
   have hi:i<two.length:=by simpa using hlt
   obtain⟨r1,r2⟩:=HB two sp (j:=i) (by omega) hi
   obtain⟨r3,r4⟩:=HB two sp (j:=i -1) (by omega) (by omega)
   have w1:az (i -1)=i -1:=aM (by omega) (by omega)
   have w2:az (i+1)=i+1:=aM (by omega) (by omega)
   generalize hcs:flat two++sp=cs at*
   have d1:=decide_eq_true r1
   have d3:=decide_eq_true r3
   simp -implicitDefEqProofs only[go_sem,start,ag,an,aA,aD,aB,aC,Nat.reduceBEq,Nat.reduceAdd,Nat.reduceMul,Nat.reduceLeDiff,Nat.reduceEqDiff,Nat.reduceBNe,Nat.ble_eq,UInt8.reduceToNat,UInt32.reduceToNat,hB',hlt,w1,w2,r2,r4,d1,d3,Bool.true_eq_false,Bool.false_eq_true,false_implies,true_implies,true_and,and_true]
   refine⟨⟨by omega,hi⟩,⟨Int.le_refl _,by omega⟩,⟨by omega,by omega⟩,⟨Int.le_refl _,by omega⟩,fun he=>?_,fun he=>?_⟩
   ·rw[he,cond_true,bk]at hb
    simp only[vK]at hb
    exact hb.1 trivial _ (hs.set hrb)
   ·rw[he,cond_false,bk]at hb
    exact hb
def Es(s:ab)(B2:Nat)(l:List aa)(k:Nat)(s':ab):Prop:=∃s1 r,s1 B2=some (.cells [gL r k])∧Sub s s1∧gj s1 r (gC l k)∧s'=fX s1 r (gC l k)
theorem Ln{s:ab}{B2:Nat}{l:List aa}{k:Nat}{s':ab}(hs0:s B2=none)(hk:k<20)(hch:(iL l k).length=2)(h:Es s B2 l k s'):
 swp Go.Proofs.Tryz.prog (MM uV) ⟨[(4,.ref B2 0),(5,z6 (iL l k))],[],s'⟩ fun σ'=>Es s B2 l (k+1) σ'.s:=by
 have hroom:room=140737488355328:=rfl
 obtain⟨s1,r,h1,h2,h3,rfl⟩:=h
 have hB:fX s1 r (gC l k) B2=some (.cells [gL r k]):=ie h3 h1
 have hkl:(gC l k).length=k:=yA l k
 generalize c6:fX s1 r (gC l k)=st at hB
 rw[uV,MM]
 unfold z6
 simp -implicitDefEqProofs only[go_sem,start,ag,an,aA,aD,aB,aC,Nat.reduceBEq,Nat.reduceAdd,Nat.reduceMul,Nat.reduceLeDiff,Nat.reduceEqDiff,Nat.reduceBNe,Nat.ble_eq,UInt8.reduceToNat,UInt32.reduceToNat,hB]
 rw[kL]
 have fin:=s5 (σ:=?_) (d:=?_) (K:=?_) (by':=24) (s:=s1) (r:=r) (l:=gC l k) (z:=([]:VL)) (v:=(iL l k:VL)) (sz:=1) ?_ h3 rfl (by rw[hkl];omega) ?_
 ·rw[hkl]at fin
  exact fin
 ·exact c6.symm
 ·intro s2 r' g1 g2
  have hB2:s2 B2=some (.cells [gL r k]):=g1 _ _ h1
  have hB3:fX s2 r' (gC l k++[iL l k]) B2=some (.cells [gL r k]):=ie g2 hB2
  rw[hkl]
  generalize hst2:fX s2 r' (gC l k++[iL l k])=st2 at hB3
  simp -implicitDefEqProofs only[go_sem,start,ag,an,aA,aD,aB,aC,Nat.reduceBEq,Nat.reduceAdd,Nat.reduceMul,Nat.reduceLeDiff,Nat.reduceEqDiff,Nat.reduceBNe,Nat.ble_eq,UInt8.reduceToNat,UInt32.reduceToNat,hB3]
  obtain⟨q1,q2⟩:=NS (o':=.cells [gL r' (k+1)]) g2 hB2
  refine⟨s2.set B2 (.cells [gL r' (k+1)]),r',bK ..,fun b o hb=>?_,?_,?_⟩
  ·have hne:b≠B2:=fun e=>by subst e;rw[hs0]at hb;cases hb
   rw[bD hne]
   exact g1 _ _ (h2 _ _ hb)
  ·rw[vL];exact q2
  ·rw[vL,←hst2];exact q1
theorem O4{n i j:Nat}{x y:AV}{G:Gh}{W:World}{s:ab}{t:Array Value}(hij:i≠j)(hi:i<n)(hj:j<n)(hg:b9 G W)(hs:aW G W s)(ht:t.size=n)(hx:view x=x∧c9 x=true)(hy:view y=y∧c9 y=true)
 (h1:∀v,t[i]? =some v→VR W G.R x v)(h2:∀v,t[j]? =some v→VR W G.R y v):Inv G n [] ⟨[(i,x),(j,y)],[],s⟩ {tmps:=t,defers:=[]} W:=by
 have lk:∀k,look [(i,x),(j,y)] k=if i=k then x else if j=k then y else .undef:=fun k=>by rw[aP,aP];rfl
 refine⟨hg,hs,ht,fun k v hk=>?_,fun k hk=>?_,fun k d hd=>?_,rfl⟩
 ·show da G W _ t k (look [(i,x),(j,y)] k) v
  rw[lk]
  by_cases e1:i=k
  ·subst e1;rw[if_pos rfl,←hx.1];exact da.wH hx.2 (h1 v hk)
  ·rw[if_neg e1]
   by_cases e2:j=k
   ·subst e2;rw[if_pos rfl,←hy.1];exact da.wH hy.2 (h2 v hk)
   ·rw[if_neg e2];exact⟨.undef _,trivial⟩
 ·show look [(i,x),(j,y)] k=.undef
  rw[lk,if_neg (by omega),if_neg (by omega)]
 ·have hd:bH (look [(i,x),(j,y)] k) d:=hd
  rw[lk]at hd
  split at hd
  ·exact(eH hx.2 d hd).elim
  ·split at hd
   ·exact(eH hy.2 d hd).elim
   ·exact hd.elim
theorem Nn{l:List aa}{r:List aa×Int}{s:ab}(h:x7 l=some r):FE Go.Proofs.Tryz.prog 182 [z6 l] s [.sl false 4 r.1.length (flat r.1),.int .i64 r.2] s:=by
 unfold x7 at h
 have h':ok (x7 l) fun x=>x=r:=⟨r,h,rfl⟩
 unfold x7 at h'
 simp only[gY,fB]at h'
 obtain⟨⟨hl0,hl40,hl2⟩,hm⟩:=h'
 obtain⟨K,hK⟩:∃K,l.length=2*K:=⟨l.length/2,by omega⟩
 have hK2:l.length/2=K:=by omega
 rw[hK2]at hm
 have hKlen:(gC l K).length=K:=yA l K
 refine FN.qg ?_
 intro G w vs hg ho hs ha
 have hI:=Ej (n:=40) hg hs ha (by rfl) (show 1≤40 by decide)
 refine callsIn_wide.1 (callsIn_of_wp_marks (n:=3) Go.Proofs.Tryz.func182 Je trivial ?_ rfl)
 rw[No]
 have mixed:=mix
 refine piece (ay mix) Jf hI (aG.refl G w) (fun σ'=>σ'=⟨[(0,z6 l)],[],s⟩) ?_ ?_
 ·rw[A4];unfold z6
  simp -implicitDefEqProofs only[go_sem,start,ag,an,aA,aD,aB,aC,Nat.reduceBEq,Nat.reduceAdd,Nat.reduceMul,Nat.reduceLeDiff,Nat.reduceEqDiff,Nat.reduceBNe,Nat.ble_eq,UInt8.reduceToNat,UInt32.reduceToNat]
 rintro G1 σ1 a1 w1 hI1 hp1 rfl
 refine piece (ay mix) Jg hI1 hp1 (fun σ'=>∃B2,s B2=none∧σ'=⟨[(0,z6 l),(4,.ref B2 0)],[],s.set B2 (.cells [.arr 0 0 0 0])⟩) ?_ ?_
 ·rw[A5];unfold z6
  simp -implicitDefEqProofs only[go_sem,start,ag,an,aA,aD,aB,aC,Nat.reduceBEq,Nat.reduceAdd,Nat.reduceMul,Nat.reduceLeDiff,Nat.reduceEqDiff,Nat.reduceBNe,Nat.ble_eq,UInt8.reduceToNat,UInt32.reduceToNat]
  intro B2 hB2
  exact⟨B2,hB2,rfl⟩
 rintro G2 σ2 a2 w2 hI2 hp2 ⟨B2,hB2,rfl⟩
 refine wpIn_seq (piece (ay mix) Jh hI2 hp2 (fun σ'=>∃Bs,(s.set B2 (.cells [.arr 0 0 0 0])) Bs=none∧∃Bn,((s.set B2 (.cells [.arr 0 0 0 0])).set Bs (.cells [z6 l])) Bn=none∧
  σ'=⟨[(4,.ref B2 0),(8,.fn 262 [] [.ref Bs 0,.ref Bn 0])],[],((s.set B2 (.cells [.arr 0 0 0 0])).set Bs (.cells [z6 l])).set Bn (.cells [.int .i64 2])⟩) ?_ ?_)
 ·rw[A6];unfold z6
  simp -implicitDefEqProofs only[go_sem,start,ag,an,aA,aD,aB,aC,Nat.reduceBEq,Nat.reduceAdd,Nat.reduceMul,Nat.reduceLeDiff,Nat.reduceEqDiff,Nat.reduceBNe,Nat.ble_eq,UInt8.reduceToNat,UInt32.reduceToNat]
  refine Mn fun Bs h1 Bn h2=>?_
  simp -implicitDefEqProofs only[go_sem,start,ag,an,aA,aD,aB,aC,Nat.reduceBEq,Nat.reduceAdd,Nat.reduceMul,Nat.reduceLeDiff,Nat.reduceEqDiff,Nat.reduceBNe,Nat.ble_eq,UInt8.reduceToNat,UInt32.reduceToNat]
  exact⟨Bs,h1,Bn,h2,rfl⟩
 rintro G3 σ3 a3 w3 hI3 hp3 ⟨Bs,hBs,Bn,hBn,rfl⟩
 have n1:=hBs
 rw[gr]at n1
 have n2:=hBn
 rw[gr]at n2
 have n3:=n2.2
 rw[gr]at n3
 have hsz:=hI3.size
 have e8:a3.tmps[8]? =some (a3.eval (.tmp 8)):=gQ (by rw[hsz];decide)
 have e4:a3.tmps[4]? =some (a3.eval (.tmp 4)):=gQ (by rw[hsz];decide)
 have v8:VR w3 G3.R (.fn 262 [] [.ref Bs 0,.ref Bn 0]) (a3.eval (.tmp 8)):=(hI3.ch 8 _ e8).1
 have v4:VR w3 G3.R (.ref B2 0) (a3.eval (.tmp 4)):=(hI3.ch 4 _ e4).1
 obtain⟨vf,vc,hv8,hvf,_,hvc,hvc2⟩:=VR.IL v8
 obtain rfl:vf= #[]:=Array.eq_empty_of_size_eq_zero hvf
 obtain rfl:vc= #[.pointer (some ⟨Bs,0,none⟩),.pointer (some ⟨Bn,0,none⟩)]:=by
  obtain⟨vl⟩:=vc
  match vl,hvc,hvc2 with
  |[x,y],_,hvc2=>rw[VR.gi (hvc2 0 _ x rfl rfl),VR.gi (hvc2 1 _ y rfl rfl)]
 have hBx:(((s.set B2 (.cells [.arr 0 0 0 0])).set Bs (.cells [z6 l])).set Bn (.cells [.int .i64 2])) Bs=some (.cells [z6 l]):=by rw[bD n2.1.symm,bK]
 have hBy:(((s.set B2 (.cells [.arr 0 0 0 0])).set Bs (.cells [z6 l])).set Bn (.cells [.int .i64 2])) Bn=some (.cells [.int .i64 2]):=bK ..
 obtain⟨hOs,_,cs,ts,hhs,⟨hcs1,hcs2⟩,_⟩:=hI3.store Bs _ hBx
 obtain⟨hOn,_,cn,tn,hhn,⟨hcn1,hcn2⟩,_⟩:=hI3.store Bn _ hBy
 obtain⟨x,rfl⟩:∃x,cs= #[x]:=by
  obtain⟨cl⟩:=cs
  match cl,hcs1 with
  |[x],_=>exact⟨x,rfl⟩
 obtain⟨y,rfl⟩:∃y,cn= #[y]:=by
  obtain⟨cl⟩:=cn
  match cl,hcn1 with
  |[x],_=>exact⟨x,rfl⟩
 have hx:VR w3 G3.R (z6 l) x:=(hcs2 0 _ x rfl rfl).1
 have hy:y=.int .i64 2:=VR.bO (hcn2 0 _ y rfl rfl).1
 subst hy
 unfold z6 at hx
 rcases VR.fR hx with⟨_,he,_⟩|⟨b,off,cap,rfl,hlen,hRb,hcap,hat⟩
 ·exact absurd he (by omega)
 refine wpIn_block ?_
 rw[Vv,RN]
 let tA:Nat→Array Value:=fun k=>a3.tmps.setIfInBounds 9 (eP b off k)
 have hfold:∀k,((#[9]:Array Tmp).zip #[eP b off k]).foldl (fun t(p,v)=>t.setIfInBounds p v) a3.tmps=tA k:=fun k=>by simp[tA]
 have hav:∀k,k<K→VR w3 G3.R (z6 (iL l k)) (eP b off k):=fun k hk=>Mo hRb hat (by omega)
 refine Xl hI3 hv8 (fun args w=>qb Go.Proofs.Tryz.func262 (by kernel_rfl) (by kernel_rfl) args) (K:=K) (jZ:=eP b off) (avs:=fun k=>z6 (iL l k)) (S:=Es s B2 l) [Bs,Bn] ?_ hav ?_ (fun k=>({tmps:=tA k,defers:=[]}:Act).put (some 5) (eP b off k)) ?_ ?_ ?_ ?_
 ·intro b' hb'
  simp only[List.mem_cons,List.not_mem_nil,or_false]at hb'
  rcases hb' with rfl|rfl
  ·exact mS.2 hOs
  ·exact mS.2 hOn
 ·refine⟨_,none,?_,fun b' o hb'=>?_,rfl,rfl⟩
  ·show(if B2∈[Bs,Bn]then none else(((s.set B2 (.cells [.arr 0 0 0 0])).set Bs (.cells [z6 l])).set Bn (.cells [.int .i64 2])) B2)=_
   rw[if_neg (by simp only[List.mem_cons,List.not_mem_nil,or_false,not_or];exact⟨n1.1.symm,n3.1.symm⟩),bD n3.1.symm,bD n1.1.symm,bK]
   rfl
  ·have e1:b'≠B2:=fun e=>by subst e;rw[hB2]at hb';cases hb'
   have e2:b'≠Bs:=fun e=>by subst e;rw[n1.2]at hb';cases hb'
   have e3:b'≠Bn:=fun e=>by subst e;rw[n3.2]at hb';cases hb'
   show(if b'∈[Bs,Bn]then none else(((s.set B2 (.cells [.arr 0 0 0 0])).set Bs (.cells [z6 l])).set Bn (.cells [.int .i64 2])) b')=_
   rw[if_neg (by simp only[List.mem_cons,List.not_mem_nil,or_false,not_or];exact⟨e2,e3⟩),bD e3,bD e2,bD e1]
   exact hb'
 ·intro lo J W hbx hdr hY h0
  have c1:w3.cell? ⟨Bs,0,none⟩=some (.slice (some ⟨b,off,none⟩) (2*K) cap):=by rw[←hK];simp[World.cell?,hhs]
  have c2:w3.cell? ⟨Bn,0,none⟩=some (.int .i64 2):=by simp[World.cell?,hhn]
  exact KP (lo:=lo) (Bs:=Bs) (Bn:=Bn) (b:=b) (off:=off) (K:=K) (cap:=cap) (by omega) (by omega) (fun k W h=>⟨(World.cell?_of_block (hbx k W h Bs (by simp))).trans c1,(World.cell?_of_block (hbx k W h Bn (by simp))).trans c2⟩) hdr hY h0
 ·intro lo k W K' hk
  rw[hfold]
  have hev:({tmps:=tA k,defers:=[]}:Act).eval (.tmp 9)=eP b off k:=by
   show(a3.tmps.setIfInBounds 9 (eP b off k)).getD 9 undef=_
   rw[Array.getD_eq_getD_getElem?,Array.getElem?_setIfInBounds_self_of_lt (by rw[hsz];decide)]
   rfl
  refine wpIn_region_list (wpListIn_plain rfl fun K2 hK2=>⟨fun _ _=>trivial,?_⟩)
  rw[←hev]at hk
  exact hK2 _ _ hk
 ·intro k hk lo G' W s' g1 g2 g3 hS hv R hR
  refine NQ Jj Hm (O4 (n:=40) (i:=4) (j:=5) (x:=.ref B2 0) (y:=z6 (iL l k)) (t:=(tA k).setIfInBounds 5 (eP b off k)) (by decide) (by decide) (by decide) g1 g3 ?_ ⟨rfl,rfl⟩ ⟨rfl,rfl⟩ ?_ ?_) (Ln hB2 (by omega) (uM l k (by omega)) hS) hR
  ·show((a3.tmps.setIfInBounds 9 _).setIfInBounds 5 _).size=_
   rw[Array.size_setIfInBounds,Array.size_setIfInBounds,hsz]
  ·intro v hv4
   have hv4:((a3.tmps.setIfInBounds 9 (eP b off k)).setIfInBounds 5 (eP b off k))[4]? =some v:=hv4
   rw[Array.getElem?_setIfInBounds_ne (by decide),Array.getElem?_setIfInBounds_ne (by decide),e4,VR.gi v4]at hv4
   injection hv4 with hv4
   rw[←hv4]
   exact .ref _ _
  ·intro v hv5
   have hv5:((a3.tmps.setIfInBounds 9 (eP b off k)).setIfInBounds 5 (eP b off k))[5]? =some v:=hv5
   rw[Array.getElem?_setIfInBounds_self_of_lt (by rw[Array.size_setIfInBounds,hsz];decide)]at hv5
   injection hv5 with hv5
   rw[←hv5]
   exact hv
 ·intro G4 W4 s4 hS hI4 hp4 hdef
  obtain⟨s1,r1,h1,h2,h3,rfl⟩:=hS
  obtain⟨rb,cap1,sp,rfl⟩:=FL h3 (by rw[hKlen];omega)
  have hlt:w3.heap.size<(w3.alloc (.deferred (some []))).heap.size:=by rw[World.size_alloc];omega
  refine last (ay mix) Ji (hI4.vb [4]) hp4 (aC mr fun rs s''=>∃s2,Sub s2 s''∧(rs=[.sl false 4 r.1.length (flat r.1),.int .i64 r.2]∧s2=s)) ?_ ?_
  ·refine Jk (s:=s) (own:=true) (by rw[hKlen];exact h1) h3.1 h2 (by rw[hKlen];omega) (by rw[hKlen];omega) ?_
   rw[hKlen]
   refine aS hm fun two⟨⟨q1,q2,q3⟩,q4⟩=>⟨fun c hc=>?_,q2,q3,aS q4 fun d hd=>⟨fun e s' hs'=>?_,fun e s' hs'=>?_⟩⟩
   ·have:=List.all_eq_true.1 q1 c hc
    simpa using this
   ·rw[e,cond_true,bk]at hd
    subst hd
    exact⟨s,hs',rfl,rfl⟩
   ·rw[e,cond_false,bk]at hd
    subst hd
    exact⟨s,hs',rfl,rfl⟩
  ·intro x G5 σ' a' W5 k1 k2 k3
   have uS:∀(hall:aB (an σ' mr)=true)(hq:∃s2,Sub s2 σ'.s∧(an σ' mr=[.sl false 4 r.1.length (flat r.1),.int .i64 r.2]∧s2=s)),_:=fun hall hq=>NO (Q:=fun rs s''=>∃s2,Sub s2 s''∧(rs=[.sl false 4 r.1.length (flat r.1),.int .i64 r.2]∧s2=s)) Lo k1 ((hp3.trans (fF hI3.aO _ .frame 0).2.1).trans k2) (k2.jG _ hlt (by simp)).1 ((k2.jG _ hlt (by simp)).2.trans (by simp)) ((k2.frame _ hlt (.inl (by simp))).trans (World.alloc_heap_new w3 _)) hp3.size hall hq
   cases x with
   |ret=>exact uS k3.1 k3.2
   |normal=>exact uS k3.1 k3.2
   |_=>exact k3.elim
theorem PJ:vC x7:=fun _ _ _ h=>Nn h
def yM(b:List UInt8)(a:Int)(last:Bool):Option (aa×Int×Int):=pY x7 b a last
theorem BF{b:List UInt8}{a:Int}{last:Bool}{s:ab}{r:aa×Int×Int}(h:yM b a last=some r):FE Go.Proofs.Tryz.prog 36 [.sl false 1 b.length (flat b),.int .i64 a,.bool last] s
 [.agg [.int .i64 r.1.Kind,.int .i64 r.1.N,.str r.1.S.b,.sl false 4 r.1.L.length (flat r.1.L)],.int .i64 r.2.1,.int .i64 r.2.2] s:=
 FN.qg (Oc PJ ⟨r,h,fun s' hs=>⟨s,hs,rfl,rfl⟩⟩)
end Go.AB
end
section
end
section
set_option maxRecDepth 4000
namespace Go.AB
open Go
theorem FN.args{P:Program}{f:FuncId}{args args':List AV}{s:ab}{Q:List AV→ab→Prop}(h:FN P f args' s Q)(ha:∀(G:Gh)(w:World)(vs:Array Value),aW G w s→nk w G.R args vs→nk w G.R args' vs):FN P f args s Q:=fun G w vs h1 h2 h3 h4=>h G w vs h1 h2 h3 (ha G w vs h3 h4)
structure ar where
 bP:Int
 To:Int
 deriving DecidableEq
instance:a8 ar:=⟨2,fun x=>[.int .i64 x.bP,.int .i64 x.To],(ar.mk 0 0),by decide,fun _=>rfl,fun _=>rfl⟩
@[go_sem]theorem ry(x:ar):a8.cells x=[.int .i64 x.bP,.int .i64 x.To]:=rfl
@[go_sem]theorem PH(l:List ar)(i:Int):pad [.int .i64 0,.int .i64 0] (views (AB.sub (flat l) (i.toNat*2) 2))=[.int .i64 ((ix l i).bP),.int .i64 ((ix l i).To)]:=by rw[←ry];exact vQ _ 2 l i (by rw[ry];rfl) rfl
def fY(x_0:ar):Option (Bool):=some ((decide (x_0.bP<0))||(decide (x_0.To≤x_0.bP)))
def ue:IC:=
 (aj [i1 1 (.lZ 2 (.t 0)),dT 2 (.bool false)] [1]
 (aj [fa 3 0 1,ld 4 1 3,bn 5 .lss 4 0,mv 6 5,fg 7 6 false 1 1,lg 8 6 false 1 7,fg 9 6 false 0 1,lg 10 6 false 1 9,Ap 11 6 false .leq 8 10,po 12 6 11,mv 2 12] [2]
 .ret))
def sL:List bj:=[⟨2,true,none⟩]
theorem C0:bG Go.Proofs.Tryz.prog 175 13 sL ue=true:=by kernel_rfl
theorem Dq{x_0}{s:ab}{Q:List AV→ab→Prop}:ok (fY x_0) (fun r=>Q [.bool r] s)→FN Go.Proofs.Tryz.prog 175 [.agg [.int .i64 x_0.bP,.int .i64 x_0.To]] s Q:=by
 intro h
 refine FN.of (ay mix) C0 rfl (Nat.le_of_ble_eq_true rfl) ?_
 revert h
 rw[ue,sL,fY]
 repeat'(first
  |with_reducible exact bI
  |with_reducible refine aU ?_ ?_
  |with_reducible exact aV
  |with_reducible refine bN ?_
  |simp -implicitDefEqProofs only[go_sem,seval])
theorem gU{x_0}{s:ab}{r:Bool}(h:fY x_0=some r):FE Go.Proofs.Tryz.prog 175 [.agg [.int .i64 x_0.bP,.int .i64 x_0.To]] s [.bool r] s:=Dq ⟨r,h,rfl,rfl⟩
def aZ(s_0:(List ar)):Option (Int):=
 xR (
  oD (
   iter (fun(t2:Int)=>
    if decide (t2<(s_0.length:Int))then
     bq (0≤t2∧t2<s_0.length)<|
     cj (fY (ix s_0 t2)) fun r4=>
     if r4 then
      some (.inr (.inr t2))
     else
      some (.inl (az (t2+1)))
    else
     some (.inr (.inl ()))) 0) (fun(_:Unit)=>
   some (.inl ()))
  (fun(t3:Int)=>some (.inr t3))) (fun(_:Unit)=>
  some (-1))
 (fun(t1:Int)=>some t1)
theorem vT:(vS Go.Proofs.Tryz.prog 175=true)=True:=eq_true (by kernel_rfl)
def eQ:IC:=
 (aj [mi 4 0] [0,1]
 (.join [] (aj [mv 6 0,le 7 0 6,mi 8 0] [0,1,7,8]
 (.block 0 (.loop [(0,true),(1,false),(7,false),(8,false)] (aj [bt 9 .lss 8 7] [0,1,7,8,9]
 (.seq (.cond (.t 9) .skip
 (.exit 0))
 (.seq (.block 1 (aj [mv 10 8,mv 5 10] [0,1,5,7,8]
 (aj [mv 11 1,mv 12 0,mv 13 5,ia 14 [.int .i64 0,.int .i64 0] 12 13,lm 15 2 14,i1 16 (.eC (.t 11) [(.t 15)])] [0,1,5,7,8,16]
 (.cond (.t 16) (aj [mv 17 5,mv 4 17] [4]
 .ret)
 .skip))))
 (.cU none [bn 18 .add 8 1,mv 8 18] [0,1,7,8])))))))
 (aj [mi 4 (-1)] [4]
 .ret)))
def eK:List bj:=[⟨4,true,none⟩]
theorem iM:bG Go.Proofs.Tryz.prog 249 19 eK eQ=true:=by kernel_rfl
theorem iP{s_0}{s:ab}{Q:List AV→ab→Prop}:ok (aZ s_0) (fun r=>Q [.int .i64 r] s)→FN Go.Proofs.Tryz.prog 249 [.sl false 2 s_0.length (flat s_0),.fn 175 [] []] s Q:=by
 intro h
 refine FN.of (ay mix) iM rfl (Nat.le_of_ble_eq_true rfl) ?_
 revert h
 rw[eQ,eK,aZ]
 repeat'(first
  |with_reducible exact bI
  |with_reducible refine aU ?_ ?_
  |with_reducible exact aV
  |with_reducible refine bN ?_
  |with_reducible refine ak (fun _(h:fY (ix s_0 t2)=some _)=>gU h) (fun r4=>?_)
  |with_reducible refine ae (fun _(h:fY (ix s_0 t2)=some _)=>gU h) (fun _=>rfl) (fun r4=>?_)
  |with_reducible refine ak (fun _(h:fY (ix s_0 t2)=some _)=>(by refine al ?_ (gU h);simp -implicitDefEqProofs only[go_sem,seval,vT])) (fun r4=>?_)
  |with_reducible refine ae (fun _(h:fY (ix s_0 t2)=some _)=>(by refine al ?_ (gU h);simp -implicitDefEqProofs only[go_sem,seval,vT])) (fun _=>rfl) (fun r4=>?_)
  |((with_reducible refine dp (fun(t2:Int)=>⟨[(0,.sl false 2 s_0.length (flat s_0)),(1,.fn 175 [] []),(7,.int .i64 (s_0.length:Int)),(8,.int .i64 t2)],[],s⟩) ?_ ?_);(first|exact rfl|simp -implicitDefEqProofs only[go_sem,seval,vT]);rintro J t2)
  |((with_reducible refine dh (fun(_:Unit)=>⟨[],[],s⟩) (fun J=>?_) ?_);rotate_left;rintro _)
  |simp -implicitDefEqProofs only[go_sem,seval,vT])
theorem eS{s_0}{s:ab}{r:Int}(h:aZ s_0=some r):FE Go.Proofs.Tryz.prog 249 [.sl false 2 s_0.length (flat s_0),.fn 175 [] []] s [.int .i64 r] s:=iP ⟨r,h,rfl,rfl⟩
def cJ(x_0:Int):Option (Bool):=some (x_0 !=x_0)
def qo:IC:=
 (aj [dT 2 (.bool false)] [0]
 (aj [mv 3 0,mv 4 0,bt 5 .neq 3 4,mv 2 5] [2]
 .ret))
def pg:List bj:=[⟨2,true,none⟩]
theorem zd:bG Go.Proofs.Tryz.prog 201 6 pg qo=true:=by kernel_rfl
theorem y7{x_0}{s:ab}{Q:List AV→ab→Prop}:ok (cJ x_0) (fun r=>Q [.bool r] s)→FN Go.Proofs.Tryz.prog 201 [.int .i64 x_0] s Q:=by
 intro h
 refine FN.of (ay mix) zd rfl (Nat.le_of_ble_eq_true rfl) ?_
 revert h
 rw[qo,pg,cJ]
 repeat'(first
  |with_reducible exact bI
  |with_reducible refine aU ?_ ?_
  |with_reducible exact aV
  |with_reducible refine bN ?_
  |simp -implicitDefEqProofs only[go_sem,seval])
theorem dR{x_0}{s:ab}{r:Bool}(h:cJ x_0=some r):FE Go.Proofs.Tryz.prog 201 [.int .i64 x_0] s [.bool r] s:=y7 ⟨r,h,rfl,rfl⟩
def bX(x_0:Int)(y_1:Int):Option (Int):=
 cj (cJ x_0) fun r1=>
 cj (cJ y_1) fun r2=>
 if r1 then
  if r2 then
   some 0
  else
   some (-1)
 else
  if r2 then
   some 1
  else
   if decide (x_0<y_1)then
    some (-1)
   else
    if decide (x_0>y_1)then
     some 1
    else
     some 0
def ns:IC:=
 (aj [mi 4 0] [0,1]
 (aj [mv 7 0,c1 8 201 7,mv 5 8] [0,1,5]
 (aj [mv 9 1,c1 10 201 9,mv 6 10] [0,1,5,6]
 (.seq (aj [mv 11 5] [0,1,6,11]
 (.cond (.t 11) (.seq (aj [mv 12 6] [12]
 (.cond (.t 12) (aj [mi 4 0] [4]
 .ret)
 .skip))
 (aj [mi 4 (-1)] [4]
 .ret))
 .skip))
 (.seq (aj [mv 13 6] [0,1,13]
 (.cond (.t 13) (aj [mi 4 1] [4]
 .ret)
 .skip))
 (.seq (aj [mv 14 0,mv 15 1,bt 16 .lss 14 15] [0,1,16]
 (.cond (.t 16) (aj [mi 4 (-1)] [4]
 .ret)
 .skip))
 (.seq (aj [mv 17 0,mv 18 1,bt 19 .gtr 17 18] [19]
 (.cond (.t 19) (aj [mi 4 1] [4]
 .ret)
 .skip))
 (aj [mi 4 0] [4]
 .ret))))))))
def mU:List bj:=[⟨4,true,none⟩]
theorem wB:bG Go.Proofs.Tryz.prog 165 20 mU ns=true:=by kernel_rfl
theorem vO{x_0 y_1}{s:ab}{Q:List AV→ab→Prop}:ok (bX x_0 y_1) (fun r=>Q [.int .i64 r] s)→FN Go.Proofs.Tryz.prog 165 [.int .i64 x_0,.int .i64 y_1] s Q:=by
 intro h
 refine FN.of (ay mix) wB rfl (Nat.le_of_ble_eq_true rfl) ?_
 revert h
 rw[ns,mU,bX]
 repeat'(first
  |with_reducible exact bI
  |with_reducible refine aU ?_ ?_
  |with_reducible exact aV
  |with_reducible refine bN ?_
  |with_reducible refine ak (fun _(h:cJ x_0=some _)=>dR h) (fun r1=>?_)
  |with_reducible refine ae (fun _(h:cJ x_0=some _)=>dR h) (fun _=>rfl) (fun r1=>?_)
  |with_reducible refine ak (fun _(h:cJ x_0=some _)=>(by refine al ?_ (dR h);simp -implicitDefEqProofs only[go_sem,seval])) (fun r1=>?_)
  |with_reducible refine ae (fun _(h:cJ x_0=some _)=>(by refine al ?_ (dR h);simp -implicitDefEqProofs only[go_sem,seval])) (fun _=>rfl) (fun r1=>?_)
  |with_reducible refine ak (fun _(h:cJ y_1=some _)=>dR h) (fun r2=>?_)
  |with_reducible refine ae (fun _(h:cJ y_1=some _)=>dR h) (fun _=>rfl) (fun r2=>?_)
  |with_reducible refine ak (fun _(h:cJ y_1=some _)=>(by refine al ?_ (dR h);simp -implicitDefEqProofs only[go_sem,seval])) (fun r2=>?_)
  |with_reducible refine ae (fun _(h:cJ y_1=some _)=>(by refine al ?_ (dR h);simp -implicitDefEqProofs only[go_sem,seval])) (fun _=>rfl) (fun r2=>?_)
  |simp -implicitDefEqProofs only[go_sem,seval])
theorem dm{x_0 y_1}{s:ab}{r:Int}(h:bX x_0 y_1=some r):FE Go.Proofs.Tryz.prog 165 [.int .i64 x_0,.int .i64 y_1] s [.int .i64 r] s:=vO ⟨r,h,rfl,rfl⟩
def il(vals_0:(List Int)):Option (Int):=
 xR (
  oD (
   iter (fun(t3:Int)=>
    if decide (t3<(vals_0.length:Int))then
     bq (0≤t3∧t3<vals_0.length)<|
     if(ix vals_0 t3)!=0 then
      some (.inr (.inr (ix vals_0 t3)))
     else
      some (.inl (az (t3+1)))
    else
     some (.inr (.inl ()))) 0) (fun(_:Unit)=>
   some (.inl ()))
  (fun(t5:Int)=>some (.inr t5))) (fun(_:Unit)=>
  some 0)
 (fun(t2:Int)=>some t2)
def vZ:IC:=
 (aj [mi 2 0] [0]
 (aj [mi 3 0] [0,3]
 (.join [(3,false)] (aj [mt 6 0,le 7 0 6,mi 8 0] [3,6,7,8]
 (.block 0 (.loop [(3,false),(6,true),(7,false),(8,false)] (aj [bt 9 .lss 8 7] [3,6,7,8,9]
 (.seq (.cond (.t 9) .skip
 (.exit 0))
 (.seq (.block 1 (aj [ia 10 oz 6 8,ld 11 1 10,mv 5 11] [3,5,6,7,8]
 (aj [mv 12 5,mv 13 3,bt 14 .neq 12 13] [3,5,6,7,8,14]
 (.cond (.t 14) (aj [mv 15 5,mv 2 15] [2]
 .ret)
 .skip))))
 (.cU none [bn 16 .add 8 1,mv 8 16] [3,6,7,8])))))))
 (aj [mv 17 3,mv 2 17] [2]
 .ret))))
def uq:List bj:=[⟨2,true,none⟩]
theorem EX:bG Go.Proofs.Tryz.prog 164 18 uq vZ=true:=by kernel_rfl
theorem EE{vals_0}{s:ab}{Q:List AV→ab→Prop}:ok (il vals_0) (fun r=>Q [.int .i64 r] s)→FN Go.Proofs.Tryz.prog 164 [.sl false 1 vals_0.length (flat vals_0)] s Q:=by
 intro h
 refine FN.of (ay mix) EX rfl (Nat.le_of_ble_eq_true rfl) ?_
 revert h
 rw[vZ,uq,il]
 repeat'(first
  |with_reducible exact bI
  |with_reducible refine aU ?_ ?_
  |with_reducible exact aV
  |with_reducible refine bN ?_
  |((with_reducible refine dp (fun(t3:Int)=>⟨[(3,.int .i64 0),(6,.sl false 1 vals_0.length (flat vals_0)),(7,.int .i64 (vals_0.length:Int)),(8,.int .i64 t3)],[],s⟩) ?_ ?_);(first|exact rfl|simp -implicitDefEqProofs only[go_sem,seval]);rintro J t3)
  |((with_reducible refine dh (fun(_:Unit)=>⟨[(3,.int .i64 0)],[],s⟩) (fun J=>?_) ?_);rotate_left;rintro _)
  |simp -implicitDefEqProofs only[go_sem,seval])
theorem l4{vals_0}{s:ab}{r:Int}(h:il vals_0=some r):FE Go.Proofs.Tryz.prog 164 [.sl false 1 vals_0.length (flat vals_0)] s [.int .i64 r] s:=EE ⟨r,h,rfl,rfl⟩
def nW(a_0:ar)(b_1:ar):Option (Int):=
 cj (bX a_0.bP b_1.bP) fun r1=>
 cj (bX a_0.To b_1.To) fun r2=>
 cj (il [r1,r2]) fun r3=>
 some r3
def rU:IC:=
 (aj [i1 2 (.lZ 2 (.t 0)),i1 3 (.lZ 2 (.t 1)),mi 4 0] [2,3]
 (.seq (.cU (some 13) [fa 5 0 2,ld 6 1 5,fa 7 0 3,ld 8 1 7,c2 9 165 6 8,fa 10 1 2,ld 11 1 10,fa 12 1 3,ld 13 1 12,c2 14 165 11 13,i1 15 (.b5 1 2 [.int .i64 0,.int .i64 0] [(0,1,(.t 9)),(1,1,(.t 14))]),c1 16 164 15,mv 4 16] [4])
 .ret))
def qQ:List bj:=[⟨4,true,none⟩]
theorem Bp:bG Go.Proofs.Tryz.prog 213 17 qQ rU=true:=by kernel_rfl
theorem Cm{a_0 b_1}{s:ab}{Q:List AV→ab→Prop}:ok (nW a_0 b_1) (fun r=>Q [.int .i64 r] s)→FN Go.Proofs.Tryz.prog 213 [.agg [.int .i64 a_0.bP,.int .i64 a_0.To],.agg [.int .i64 b_1.bP,.int .i64 b_1.To]] s Q:=by
 intro h
 refine FN.of (ay mix) Bp rfl (Nat.le_of_ble_eq_true rfl) ?_
 revert h
 rw[rU,qQ,nW]
 repeat'(first
  |with_reducible exact bI
  |with_reducible refine aU ?_ ?_
  |with_reducible exact aV
  |with_reducible refine bN ?_
  |with_reducible refine ak (fun _(h:bX a_0.bP b_1.bP=some _)=>dm h) (fun r1=>?_)
  |with_reducible refine ae (fun _(h:bX a_0.bP b_1.bP=some _)=>dm h) (fun _=>rfl) (fun r1=>?_)
  |with_reducible refine ak (fun _(h:bX a_0.bP b_1.bP=some _)=>(by refine al ?_ (dm h);simp -implicitDefEqProofs only[go_sem,seval])) (fun r1=>?_)
  |with_reducible refine ae (fun _(h:bX a_0.bP b_1.bP=some _)=>(by refine al ?_ (dm h);simp -implicitDefEqProofs only[go_sem,seval])) (fun _=>rfl) (fun r1=>?_)
  |with_reducible refine ak (fun _(h:bX a_0.To b_1.To=some _)=>dm h) (fun r2=>?_)
  |with_reducible refine ae (fun _(h:bX a_0.To b_1.To=some _)=>dm h) (fun _=>rfl) (fun r2=>?_)
  |with_reducible refine ak (fun _(h:bX a_0.To b_1.To=some _)=>(by refine al ?_ (dm h);simp -implicitDefEqProofs only[go_sem,seval])) (fun r2=>?_)
  |with_reducible refine ae (fun _(h:bX a_0.To b_1.To=some _)=>(by refine al ?_ (dm h);simp -implicitDefEqProofs only[go_sem,seval])) (fun _=>rfl) (fun r2=>?_)
  |with_reducible refine ak (fun _(h:il [r1,r2]=some _)=>l4 h) (fun r3=>?_)
  |with_reducible refine ae (fun _(h:il [r1,r2]=some _)=>l4 h) (fun _=>rfl) (fun r3=>?_)
  |with_reducible refine ak (fun _(h:il [r1,r2]=some _)=>(by refine al ?_ (l4 h);simp -implicitDefEqProofs only[go_sem,seval])) (fun r3=>?_)
  |with_reducible refine ae (fun _(h:il [r1,r2]=some _)=>(by refine al ?_ (l4 h);simp -implicitDefEqProofs only[go_sem,seval])) (fun _=>rfl) (fun r3=>?_)
  |simp -implicitDefEqProofs only[go_sem,seval])
theorem Cl{a_0 b_1}{s:ab}{r:Int}(h:nW a_0 b_1=some r):FE Go.Proofs.Tryz.prog 213 [.agg [.int .i64 a_0.bP,.int .i64 a_0.To],.agg [.int .i64 b_1.bP,.int .i64 b_1.To]] s [.int .i64 r] s:=Cm ⟨r,h,rfl,rfl⟩
def yE:IC:=
 (aj [dT 2 (.arr 0 0 0 0)] [0]
 (.seq (aj [mv 3 0,i1 4 (.OR false (.t 3))] [0,4]
 (.cond (.t 4) (aj [dT 2 (.arr 0 0 0 0)] [2]
 .ret)
 .skip))
 (aj [i1 5 (.jE 2 0 [] []),mv 6 0,i1 7 (.gh 2 16 [.int .i64 0,.int .i64 0] (.t 5) (.t 6)),mv 2 7] [2]
 .ret)))
def wW:List bj:=[⟨2,true,none⟩]
theorem GO:bG Go.Proofs.Tryz.prog 203 8 wW yE=true:=by kernel_rfl
def xw(l:List ar)(s:ab)(rs:List AV)(s':ab):Prop:=(∃b cap sp,rs=[.arr b 0 l.length cap]∧s b=none∧0<cap∧l.length≤cap∧(flat l++sp).length=cap*2∧views (flat l++sp)=flat l++sp∧s'=s.set b (.cells (flat l++sp)))∨(l=[]∧s'=s∧∃b,rs=[.arr b 0 0 0])
theorem vN{o:Bool}{l:List ar}{s:ab}(hr:l.length*16≤room):FN Go.Proofs.Tryz.prog 203 [.sl o 2 l.length (flat l)] s (xw l s):=by
 refine FN.qg (FN.of (ay mix) GO rfl (Nat.le_of_ble_eq_true rfl) ?_)
 generalize hQ:(fun rs s'=>∃s2,Sub s2 s'∧xw l s rs s2)=Q
 have hq:∀rs s' s2,Sub s2 s'→xw l s rs s2→Q rs s':=fun rs s' s2 h1 h2=>by rw[←hQ];exact⟨s2,h1,h2⟩
 rw[yE,wW]
 simp -implicitDefEqProofs only[go_sem,start,ag,an,aA,aD,aB,aC,Nat.reduceBEq,Nat.reduceAdd,Nat.reduceMul,Nat.reduceLeDiff,Nat.reduceEqDiff,Nat.reduceBNe,Nat.ble_eq,UInt8.reduceToNat,UInt32.reduceToNat]
 intro v hv
 refine⟨fun h=>hq _ _ s (Sub.refl s) (.inr ⟨List.eq_nil_of_length_eq_zero (hv (by simpa using h)),rfl,0,rfl⟩),fun _ b1 hb1=>?_⟩
 rw[kL,cm]
 by_cases hl:l=[]
 ·subst hl
  refine CE rfl rfl (Nat.le_refl 0) ?_
  simp -implicitDefEqProofs only[go_sem,start,ag,an,aA,aD,aB,aC,Nat.reduceBEq,Nat.reduceAdd,Nat.reduceMul,Nat.reduceLeDiff,Nat.reduceEqDiff,Nat.reduceBNe,Nat.ble_eq,UInt8.reduceToNat,UInt32.reduceToNat]
  exact hq _ _ s ((Sub.refl s).set hb1) (.inr ⟨rfl,rfl,_,rfl⟩)
 ·have hn:0<l.length:=List.length_pos_iff.2 hl
  refine jC rfl rfl (by omega) (by rw[Nat.zero_add];exact hr) fun b2 cap hb2 hcap=>?_
  rw[Nat.zero_add]at hcap
  have hz:(List.replicate (cap -(0+l.length)) [.int .i64 0,.int .i64 0]).flatten=flat (List.replicate (cap -l.length) (ar.mk 0 0:ar)):=by rw[mG,Nat.zero_add];rfl
  rw[hz]
  simp -implicitDefEqProofs only[go_sem,start,ag,an,aA,aD,aB,aC,Nat.reduceBEq,Nat.reduceAdd,Nat.reduceMul,Nat.reduceLeDiff,Nat.reduceEqDiff,Nat.reduceBNe,Nat.ble_eq,UInt8.reduceToNat,UInt32.reduceToNat,Nat.zero_add,List.nil_append]
  have hb2':s b2=none:=((Sub.refl s).set hb1).none hb2
  refine hq _ _ _ (Sub.Zu ((Sub.refl s).set hb1)) (.inl ⟨b2,cap,_,rfl,hb2',by omega,hcap,?_,?_,rfl⟩)
  ·rw[List.length_append,aK,aK,List.length_replicate]
   show l.length*2+(cap -l.length)*2=cap*2
   omega
  ·rw[xf,cm,cm]
theorem Gn{o:Bool}{l:List ar}{s:ab}(hr:l.length*16≤room):FE Go.Proofs.Tryz.prog 203 [.sl o 2 l.length (flat l)] s [.us 2 l.length (flat l)] s:=
 FN.TB (aK l) ⟨rfl,rfl⟩ ((vN hr).mono fun rs s' h=>by
  rcases h with⟨b,cap,sp,h1,h2,h3,h4,h5,h6,h7⟩|⟨h1,h2,h3⟩
  ·exact .inl ⟨b,cap,sp,h1,by rw[h7];exact fC,h3,h4,h5,h6,by rw[h7,Af h2];exact Sub.refl s⟩
  ·subst h1;exact .inr ⟨rfl,rfl,by rw[h2];exact Sub.refl s,h3⟩)
def xH:IC:=
 (aj [dT 4 (.arr 0 0 0 0)] [0,1]
 (aj [mv 8 0,mv 9 1,c2 10 249 8 9,mv 5 10] [0,1,5]
 (.seq (aj [mv 11 5,bn 12 .eql 11 (-1)] [0,1,5,12]
 (.cond (.t 12) (aj [mv 13 0,mv 4 13] [4]
 .ret)
 .skip))
 (.seq (aj [mv 14 5,bn 15 .add 14 1,mv 6 15] [0,1,5,6]
 (.block 0 (.loop [(0,false),(1,false),(5,false),(6,false)] (.seq (aj [mv 16 6,mv 17 0,le 18 0 17,bt 19 .lss 16 18] [0,1,5,6,19]
 (.cond (.t 19) .skip
 (.exit 0)))
 (.seq (.block 1 (aj [mv 22 0,mv 23 6,ia 24 [.int .i64 0,.int .i64 0] 22 23,lm 25 2 24,i1 7 (.aQ [.int .i64 0,.int .i64 0]),st 2 7 25] [0,1,5,6,7]
 (aj [mv 26 1,lm 27 2 7,i1 28 (.eC (.t 26) [(.t 27)]),no 29 28] [0,1,5,6,7,29]
 (.cond (.t 29) (aj [mv 30 0,mv 31 5,lm 32 2 7,ia 33 [.int .i64 0,.int .i64 0] 30 31,st 2 33 32] [0,1,5,6]
 (.cU none [mv 34 5,bn 35 .add 34 1,mv 5 35] [0,1,5,6]))
 .skip))))
 (.cU none [mv 20 6,bn 21 .add 20 1,mv 6 21] [0,1,5,6]))))))
 (aj [mv 36 0,mv 37 5,Vc 38 2 36 37,i0 (.pJ [.int .i64 0,.int .i64 0] (.t 38))] [0,5]
 (aj [mv 39 0,mv 40 5,Ts 41 2 39 40,mv 4 41] [4]
 .ret))))))
def vk:List bj:=[⟨4,true,none⟩]
theorem DN:bG Go.Proofs.Tryz.prog 211 42 vk xH=true:=by kernel_rfl
end Go.AB
end
section
set_option maxRecDepth 4000
namespace Go.AB
open Go
theorem AY{T:Type}[a8 T]{w:World}{R R':Nat→Nat}{b cap f:Nat}{l:List T}{vs:Array Value}(mono:∀a u,VR w R a u→VR w R' a u)(hv:∀u,VR w R (.arr b 0 l.length cap) u→VR w R' (.sl false 2 l.length (flat l)) u)
 (ha:nk w R [.arr b 0 l.length cap,.fn f [] []] vs):nk w R' [.sl false 2 l.length (flat l),.fn f [] []] vs:=by
 refine⟨ha.1,fun j a v hj hvs=>?_⟩
 match j,hj with
 |0,hj=>cases hj;exact hv v (ha.2 0 _ v rfl hvs)
 |1,hj=>cases hj;exact mono _ _ (ha.2 1 _ v rfl hvs)
theorem tP{b cap:Nat}{l:List ar}{sp:List AV}{r:Int}{s:ab}{Q:List AV→ab→Prop}(hs:s b=some (.cells (flat l++sp)))(hn:l.length≤cap)(h:aZ l=some r)(hq:Q [.int .i64 r] s):
 FN Go.Proofs.Tryz.prog 249 [.arr b 0 l.length cap,.fn 175 [] []] s Q:=by
 refine FN.borrow b (l.length*2) (args':=[.sl false 2 l.length (flat l),.fn 175 [] []]) (FE.app (eS h) ⟨rfl,hq⟩) fun G w vs c6 ha=>?_
 refine AY (fun a u h=>h.mono (fun i=>?_) fun _ _ _=>rfl) (fun u hu=>L8 c6 (aK l) hn (cm l) (fun _=>⟨sp,hs⟩) hu (by decide)) ha
 show G.R i≤if i=b∧b<w.heap.size then l.length*2 else G.R i
 split
 ·rename_i e
  obtain⟨q2,q3,_⟩:=c6 b _ hs
  rw[e.1,q3];exact Nat.zero_le _
 ·exact Nat.le_refl _
theorem L7{w:World}{R:Nat→Nat}{b off sz:Nat}{v:Value}(hv:VR w R (.arr b off 0 0) v):VR w R (.sl false sz 0 []) v:=by
 rcases VR.cD hv with e|⟨_,_,e⟩
 ·rw[e];exact .sle sz _ _
 ·rw[e];exact .slnil false sz
theorem CL{b off:Nat}{r:Int}{s:ab}{Q:List AV→ab→Prop}(h:aZ []=some r)(hq:Q [.int .i64 r] s):
 FN Go.Proofs.Tryz.prog 249 [.arr b off 0 0,.fn 175 [] []] s Q:=
 FN.args (FE.app (eS h) hq) fun G w vs _ ha=>⟨ha.1,fun j a v hj hv=>by
  match j,hj with
  |0,hj=>cases hj;exact L7 (ha.2 0 _ v rfl hv)
  |1,hj=>cases hj;exact ha.2 1 _ v rfl hv⟩
theorem Ei{s:ab}{b:Nat}{o:SO}(h:s b=some o):s.set b o=s:=by
 funext c
 unfold ab.set
 split
 ·rename_i e;subst e;rw[h]
 ·rfl
def yV(x:ar):Bool:=(decide (x.bP<0))||(decide (x.To≤x.bP))
theorem TE(x:ar)(s:ab):FE Go.Proofs.Tryz.prog 175 [.agg [.int .i64 x.bP,.int .i64 x.To]] s [.bool (yV x)] s:=gU rfl
theorem Il{b cap i:Nat}{l:List ar}{sp:List AV}{s:ab}{Q:List AV→ab→Prop}(hs:s b=some (.cells (flat l++sp)))(hl:(flat l++sp).length=cap*2)(hn:l.length≤cap)(hbig:(l.length:Int)≤9223372036854775807)
 (hidx:aZ l=some (i:Int))(hi:i<l.length)(hk:(l.take (i+1)).filter (fun x=>!yV x)=l.take i)
 (hq:∀sp',(flat (l.filter (fun x=>!yV x))++sp').length=cap*2→Q [.arr b 0 (l.filter (fun x=>!yV x)).length cap] (s.set b (.cells (flat (l.filter (fun x=>!yV x))++sp')))):
 FN Go.Proofs.Tryz.prog 211 [.arr b 0 l.length cap,.fn 175 [] []] s Q:=by
 refine FN.of (ay mix) DN rfl (Nat.le_of_ble_eq_true rfl) ?_
 rw[xH,vk]
 simp -implicitDefEqProofs only[go_sem,start,ag,an,aA,aD,aB,aC,Nat.reduceBEq,Nat.reduceAdd,Nat.reduceMul,Nat.reduceLeDiff,Nat.reduceEqDiff,Nat.reduceBNe,Nat.ble_eq,UInt8.reduceToNat]
 refine tP hs hn hidx ?_
 simp -implicitDefEqProofs only[go_sem,start,ag,an,aA,aD,aB,aC,Nat.reduceBEq,Nat.reduceAdd,Nat.reduceMul,Nat.reduceLeDiff,Nat.reduceEqDiff,Nat.reduceBNe,Nat.ble_eq,UInt8.reduceToNat]
 have e1:(((i:Int))==-1)=false:=by rw[beq_eq_false_iff_ne];omega
 rw[e1]
 refine⟨fun h=>(by cases h),fun _=>?_⟩
 have w1:az ((i:Int)+1)=((i+1:Nat):Int):=by rw[aM (by omega) (by omega)];omega
 rw[w1]
 refine⟨fun τ=>∃(a j:Nat)(l':List ar),τ=⟨[(0,.arr b 0 l.length cap),(1,.fn 175 [] []),(5,.int .i64 (a:Int)),(6,.int .i64 (j:Int))],[],s.set b (.cells (flat l'++sp))⟩∧l'.length=l.length∧a<j∧j≤l.length∧l'.take a=(l.take j).filter (fun x=>!yV x)∧l'.drop j=l.drop j∧a=((l.take j).filter (fun x=>!yV x)).length,
  fun τ=>match look τ.e 6 with|.int _ j=>l.length -j.toNat|_=>0,?_,?_⟩
 ·refine⟨i,i+1,l,?_,rfl,by omega,by omega,hk.symm,rfl,?_⟩
  ·rw[Ei hs];rfl
  ·rw[hk];simp;omega
 ·rintro τ ⟨a,j,l',rfl,h1,h2,h3,h4,h5,h6⟩
  have hlen:(flat l'++sp).length=cap*2:=by rw[←hl,List.length_append,List.length_append,aK,aK,h1]
  simp -implicitDefEqProofs only[go_sem,start,ag,an,aA,aD,aB,aC,Nat.reduceBEq,Nat.reduceAdd,Nat.reduceMul,Nat.reduceLeDiff,Nat.reduceEqDiff,Nat.reduceBNe,Nat.ble_eq,UInt8.reduceToNat,fC]
  refine⟨fun hj=>⟨⟨by omega,of_decide_eq_true hj⟩,?_⟩,fun hj=>⟨by omega,?_⟩⟩
  ·have hj:=of_decide_eq_true hj
   have hj':j<l.length:=by omega
   have hx:∃x,l.drop j=x::l.drop (j+1)∧(l.take (j+1)).filter (fun x=>!yV x)=(l.take j).filter (fun x=>!yV x)++(if yV x then[]else[x]):=by
    refine⟨l[j],List.drop_eq_getElem_cons hj',?_⟩
    rw[List.take_succ_eq_append_getElem hj',List.filter_append]
    cases hg:yV l[j]<;>simp[hg]
   obtain⟨x,hx1,hx2⟩:=hx
   have hd:decide (j*2+2≤(flat l').length+sp.length)=true:=decide_eq_true (by rw[aK,h1];show j*2+2≤l.length*2+_;omega)
   have hv:views (AB.sub (flat l'++sp) (j*2) 2)=[.int .i64 x.bP,.int .i64 x.To]:=by
    have:=nU l' sp 2 j 1 rfl (by omega)
    rw[Nat.one_mul]at this
    rw[this,h5,hx1];rfl
   rw[hd,hv]
   simp -implicitDefEqProofs only[go_sem,start,ag,an,aA,aD,aB,aC,Nat.reduceBEq,Nat.reduceAdd,Nat.reduceMul,Nat.reduceLeDiff,Nat.reduceEqDiff,Nat.reduceBNe,Nat.ble_eq,UInt8.reduceToNat]
   refine⟨(by kernel_rfl),FE.app (TE x _) ?_⟩
   have w2:az ((j:Int)+1)=((j+1:Nat):Int):=by rw[aM (by omega) (by omega)];omega
   have w3:az ((a:Int)+1)=((a+1:Nat):Int):=by rw[aM (by omega) (by omega)];omega
   simp -implicitDefEqProofs only[go_sem,start,ag,an,aA,aD,aB,aC,Nat.reduceBEq,Nat.reduceAdd,Nat.reduceMul,Nat.reduceLeDiff,Nat.reduceEqDiff,Nat.reduceBNe,Nat.ble_eq,UInt8.reduceToNat,fC,w2,w3]
   have st:=p9 l' [x] sp 2 a rfl (by simp;omega)
   have d1:l'.drop (j+1)=l.drop (j+1):=by rw[←List.drop_drop,←List.drop_drop,h5]
   have ht:(l'.take a++[x]).length=a+1:=by simp;omega
   refine⟨fun hg=>⟨⟨by omega,by omega⟩,by rw[aK,h1];show a*2+2≤l.length*2+_;omega,⟨a+1,j+1,l'.take a++[x]++l'.drop (a+1),?_,?_,by omega,by omega,?_,?_,?_⟩,by omega⟩,
    fun hg=>⟨⟨a,j+1,l',rfl,h1,by omega,by omega,?_,d1,?_⟩,by omega⟩⟩
   ·rw[show setAt (flat l'++sp) (a*2) [AV.int .i64 x.bP,AV.int .i64 x.To]=_ from st];rfl
   ·rw[List.length_append,ht,List.length_drop];omega
   ·rw[List.take_append_of_le_length (by omega),List.take_of_length_le (by omega),hx2,h4]
    have:yV x=false:=by cases h:yV x<;>simp_all
    simp[this]
   ·rw[List.drop_append,List.drop_of_length_le (by omega),List.nil_append,ht,List.drop_drop,show a+1+(j+1 -(a+1))=j+1 by omega,d1]
   ·have:yV x=false:=by cases h:yV x<;>simp_all
    rw[hx2,List.length_append,←h6,this];rfl
   ·have:yV x=true:=by cases h:yV x<;>simp_all
    rw[h4,hx2,this];simp
   ·have:yV x=true:=by cases h:yV x<;>simp_all
    rw[hx2,this,h6];simp
  ·have hj:=of_decide_eq_false hj
   obtain rfl:j=l.length:=by omega
   rw[KJ (by omega)]
   have hsp:(flat l'++sp).length=cap*2:=by omega
   refine Ij rfl fC (by
    rw[hsp]
    show 0+a*2+(l.length -a)*2≤cap*2
    omega) ?_
   have hz:(List.replicate (l.length -a) [AV.int .i64 0,AV.int .i64 0]).flatten=flat (List.replicate (l.length -a) (ar.mk 0 0)):=by rw[mG];rfl
   have st:=p9 l' (List.replicate (l.length -a) (ar.mk 0 0)) sp 2 a rfl (by simp;omega)
   have e3:l'.drop (a+(List.replicate (l.length -a) (ar.mk 0 0)).length)=[]:=by rw[List.drop_eq_nil_iff];simp;omega
   rw[e3,List.append_nil,h4,List.take_length,eV,List.append_assoc]at st
   rw[List.take_length]at h6
   rw[Nat.zero_add,hz,st]
   generalize hF:l.filter (fun x=>!yV x)=F at hq h6
   have hq':=hq (flat (List.replicate (l.length -a) (ar.mk 0 0))++sp) (by
    rw[List.length_append,List.length_append,aK,aK,List.length_replicate,←h6]
    rw[List.length_append,aK,h1]at hsp
    have q1:a8.w ar=2:=rfl
    rw[q1]at hsp⊢
    omega)
   rw[←h6]at hq'
   generalize flat (List.replicate (l.length -a) (ar.mk 0 0))++sp=sp' at hq'
   simp -implicitDefEqProofs only[go_sem,start,ag,an,aA,aD,aB,aC,Nat.reduceBEq,Nat.reduceAdd,Nat.reduceMul,Nat.reduceLeDiff,Nat.reduceEqDiff,Nat.reduceBNe,Nat.ble_eq,UInt8.reduceToNat]
   exact⟨by omega,hq'⟩
theorem yB{b off n cap:Nat}{s:ab}{Q:List AV→ab→Prop}(hx:∀Q:List AV→ab→Prop,Q [.int .i64 (-1)] s→FN Go.Proofs.Tryz.prog 249 [.arr b off n cap,.fn 175 [] []] s Q)(hq:Q [.arr b off n cap] s):
 FN Go.Proofs.Tryz.prog 211 [.arr b off n cap,.fn 175 [] []] s Q:=by
 refine FN.of (ay mix) DN rfl (Nat.le_of_ble_eq_true rfl) ?_
 rw[xH,vk]
 simp -implicitDefEqProofs only[go_sem,start,ag,an,aA,aD,aB,aC,Nat.reduceBEq,Nat.reduceAdd,Nat.reduceMul,Nat.reduceLeDiff,Nat.reduceEqDiff,Nat.reduceBNe,Nat.ble_eq,UInt8.reduceToNat]
 refine hx _ ?_
 simp -implicitDefEqProofs only[go_sem,start,ag,an,aA,aD,aB,aC,Nat.reduceBEq,Nat.reduceAdd,Nat.reduceMul,Nat.reduceLeDiff,Nat.reduceEqDiff,Nat.reduceBNe,Nat.ble_eq,UInt8.reduceToNat]
 exact⟨fun _=>hq,fun h=>(by cases h)⟩
theorem DH(l:List ar)(hb:l.length<4611686018427387904):
 aZ l=some (match l.findIdx? yV with|some i=>(i:Int)|none=>-1):=by
 unfold aZ
 have step:∀k(hk:k<l.length),fY (ix l (k:Int))=some (yV l[k]):=fun k hk=>by
  have e:ix l (k:Int)=l[k]:=QT (i:=(k:Int)) hk
  rw[e];rfl
 cases h:l.findIdx? yV with
 |none=>
  rw[List.findIdx?_eq_none_iff]at h
  refine bz (z:=.inl ()) (s8 (z:=.inl ()) (oR l.length hb (fun k hk=>?_) ?_) rfl) rfl
  ·refine ax (decide_eq_true (by omega)) (ah ⟨by omega,by omega⟩ (ai (step k hk) ?_))
   rw[h _ (List.getElem_mem hk)];rfl
  ·exact af (by simp) rfl
 |some i=>
  rw[List.findIdx?_eq_some_iff_getElem]at h
  obtain⟨hi,h1,h2⟩:=h
  refine bz (z:=.inr (i:Int)) (s8 (z:=.inr (i:Int)) (oR i (by omega) (fun k hk=>?_) ?_) rfl) rfl
  ·refine ax (decide_eq_true (by omega)) (ah ⟨by omega,by omega⟩ (ai (step k (by omega)) ?_))
   have:=h2 k hk
   rw[Bool.not_eq_true]at this
   rw[this];rfl
  ·refine ax (decide_eq_true (by omega)) (ah ⟨by omega,by omega⟩ (ai (step i hi) ?_))
   rw[h1];rfl
def full(l:List ar):List ar:=l.filter fun x=>!yV x
theorem Io{l:List ar}{s:ab}{Q:List AV→ab→Prop}(hb:l.length*16≤room){b cap:Nat}{sp:List AV}(hs:s b=some (.cells (flat l++sp)))(hn:l.length≤cap)(hl:(flat l++sp).length=cap*2)
 (hq:∀sp',(flat (full l)++sp').length=cap*2→Q [.arr b 0 (full l).length cap] (s.set b (.cells (flat (full l)++sp')))):FN Go.Proofs.Tryz.prog 211 [.arr b 0 l.length cap,.fn 175 [] []] s Q:=by
 have hb':l.length<4611686018427387904:=by unfold room at hb;omega
 have hidx:=DH l hb'
 cases h:l.findIdx? yV with
 |none=>
  rw[h]at hidx
  have hall:full l=l:=by
   rw[List.findIdx?_eq_none_iff]at h
   exact List.filter_eq_self.2 fun x hx=>by simp[h x hx]
  rw[hall]at hq
  refine yB (fun Q' hq'=>tP hs hn hidx hq') ?_
  have:=hq sp hl
  rwa[Ei hs]at this
 |some i=>
  rw[h]at hidx
  rw[List.findIdx?_eq_some_iff_getElem]at h
  obtain⟨hi,h1,h2⟩:=h
  refine Il hs hl hn (by omega) hidx hi ?_ hq
  rw[List.take_succ_eq_append_getElem hi,List.filter_append]
  have e1:(l.take i).filter (fun x=>!yV x)=l.take i:=by
   refine List.filter_eq_self.2 fun x hx=>?_
   obtain⟨k,hk,rfl⟩:=List.getElem_of_mem hx
   rw[List.length_take]at hk
   rw[List.getElem_take]
   have:=h2 k (by omega)
   simpa using this
  rw[e1]
  simp[h1]
theorem Im{b off:Nat}{s:ab}{Q:List AV→ab→Prop}(hq:Q [.arr b off 0 0] s):FN Go.Proofs.Tryz.prog 211 [.arr b off 0 0,.fn 175 [] []] s Q:=yB (fun Q' hq'=>CL (r:=-1) (DH [] (by decide)) hq') hq
end Go.AB
end
section
namespace Go.AB
open Go
def Form(l:List ar):Prop:=(∀x∈l,0≤x.bP∧x.bP<x.To)∧l.Pairwise fun x y=>x.To<y.bP
theorem Form.tail{x:ar}{l:List ar}(h:Form (x::l)):Form l:=⟨fun y hy=>h.1 y (List.mem_cons_of_mem _ hy),(List.pairwise_cons.1 h.2).2⟩
def fk(gap:Int)(out:List ar)(x:ar):List ar:=match out.getLast? with
 |none=>[x]
 |some y=>if az (x.bP -y.To)≤gap then out.dropLast++[⟨y.bP,max y.To x.To⟩]else out++[x]
def J9(gap:Int)(l:List ar):List ar:=l.foldl (fk gap) []
def Yh(x y:ar):Prop:=x.bP<y.bP∨(x.bP=y.bP∧x.To≤y.To)
def XU(l:List ar):Prop:=l.Pairwise Yh
theorem C3(gap:Int)(O:List ar)(y x:ar):fk gap (O++[y]) x=if az (x.bP -y.To)≤gap then O++[⟨y.bP,max y.To x.To⟩]else O++[y]++[x]:=by
 unfold fk
 rw[List.getLast?_append]
 simp
end Go.AB
end
section
namespace Go.AB
open Go Go.Sort Go.Proofs Go.Shelf
def xx(a b:Int):Int:=if a<b then -1 else if b<a then 1 else 0
def OI(x y:ar):Int:=if xx x.bP y.bP≠0 then xx x.bP y.bP else xx x.To y.To
theorem AP(a b:Int):bX a b=some (xx a b):=by
 have e:∀x:Int,cJ x=some false:=fun x=>by unfold cJ;simp
 unfold bX
 refine ai (e a) (ai (e b) (af (by decide) (af (by decide) ?_)))
 unfold xx
 by_cases h1:a<b
 ·rw[if_pos h1];exact ax (decide_eq_true h1) rfl
 ·rw[if_neg h1]
  refine af (by simpa using h1) ?_
  by_cases h2:b<a
  ·rw[if_pos h2];exact ax (decide_eq_true h2) rfl
  ·rw[if_neg h2];exact af (by simpa using h2) rfl
theorem KL(x y:ar):nW x y=some (OI x y):=by
 refine ai (AP _ _) (ai (AP _ _) (ai (a:=OI x y) ?_ rfl))
 generalize ha:xx x.bP y.bP=a
 generalize hb:xx x.To y.To=b
 unfold il OI
 rw[ha,hb]
 by_cases h1:a=0
 ·rw[if_neg (by simpa using h1)]
  by_cases h2:b=0
  ·subst h1;subst h2
   refine bz (z:=.inl ()) (s8 (z:=.inl ()) (oR 2 (by decide) (fun k hk=>?_) (af (by simp) rfl)) rfl) rfl
   match k,hk with
   |0,_=>exact ax (by simp) (ah (by simp) (af (by simp[ix]) rfl))
   |1,_=>exact ax (by simp) (ah (by simp) (af (by simp[ix]) rfl))
  ·subst h1
   refine bz (z:=.inr b) (s8 (z:=.inr b) (oR 1 (by decide) (fun k hk=>?_) ?_) rfl) rfl
   ·match k,hk with
    |0,_=>exact ax (by simp) (ah (by simp) (af (by simp[ix]) rfl))
   ·exact ax (by simp) (ah (by simp) (ax (by simp[ix,h2]) (by simp[ix])))
 ·rw[if_pos h1]
  refine bz (z:=.inr a) (s8 (z:=.inr a) (oR 0 (by decide) (fun k hk=>by omega) ?_) rfl) rfl
  exact ax (by simp) (ah (by simp) (ax (by simp[ix,h1]) (by simp[ix])))
theorem JU{a b:Int}(h:a<b):xx a b=-1:=by unfold xx;rw[if_pos h]
theorem JT{a b:Int}(h:b<a):xx a b=1:=by unfold xx;rw[if_neg (by omega),if_pos h]
theorem JS(a:Int):xx a a=0:=by unfold xx;rw[if_neg (by omega),if_neg (by omega)]
theorem Fi(x y:ar):ltOf OI x y=decide (x.bP<y.bP∨(x.bP=y.bP∧x.To<y.To)):=by
 unfold ltOf
 congr 1
 rw[eq_iff_iff]
 unfold OI
 rcases Int.lt_trichotomy x.bP y.bP with h|h|h
 ·rw[JU h];simp;exact .inl h
 ·rw[h,JS]
  rcases Int.lt_trichotomy x.To y.To with k|k|k
  ·rw[JU k];simp;exact k
  ·rw[k,JS];simp
  ·rw[JT k];simp;omega
 ·rw[JT h];simp;omega
theorem Xv:SWO (ltOf OI)where
 irrefl x:=by rw[Fi];simp
 trans x y z h1 h2:=by rw[Fi]at*;simp at*;omega
 ntrans x y z h1 h2:=by rw[Fi]at*;simp at*;omega
def IA(x:ar):List Value:=[.int .i64 x.bP,.int .i64 x.To]
instance:Inhabited ar:=⟨⟨0,0⟩⟩
theorem XO(w:World)(R:Nat→Nat)(x:ar)(j:Nat)(c:AV)(v:Value)(hc:(a8.cells x)[j]? =some c)(hv:(IA x)[j]? =some v):VR w R c v:=by
 match j,hc,hv with
 |0,hc,hv=>cases hc;cases hv;exact .int _ _
 |1,hc,hv=>cases hc;cases hv;exact .int _ _
theorem VO(w:World)(R:Nat→Nat)(x:ar)(vs:List Value)(hl:vs.length=2)(h:∀(j:Nat)(c:AV)(v:Value),(a8.cells x)[j]? =some c→vs[j]? =some v→VR w R c v):vs=IA x:=by
 match vs,hl with
 |[a,b],_=>
  have h0:=VR.bO (h 0 _ a rfl rfl)
  have h1:=VR.bO (h 1 _ b rfl rfl)
  rw[h0,h1];rfl
theorem Sx(s6 off size:Nat)(w:World):CmpLays Tryz.prog 213 #[] IA 2 OI s6 off size w:=
 I1 (fun x y=>Cl (KL x y)) (fun w R x=>.agg _ _ (fun c hc=>by
  rcases List.mem_cons.1 hc with rfl|hc
  ·rfl
  ·rcases List.mem_cons.1 hc with rfl|hc
   ·rfl
   ·cases hc) rfl fun j c v hc hv=>XO w R x j c v hc (by simpa using hv)) s6 off size w
theorem JB(s6 off cap:Nat)(d:Array ar)(w:World)(hH:HoldsK IA 2 w s6 off d)(hblk:s6<w.heap.size)(hsz:d.size<4611686018427387904):
 Calls Tryz.prog 212 #[.slice (some ⟨s6,off,none⟩) d.size cap,.func (.func 213) #[] #[]] w fun e w'=>e=.returned (.tuple #[])∧∃d' n os,PermIn 0 d.size d d'∧SortedIn (ltOf OI) 0 d.size d'∧w'=sortWorldK IA 2 w s6 off n d' os:=by
 have eg:∀args w,(callFunc 213 args).run Tryz.prog w=.ok (.enter 213 args) w:=enters_of Tryz.func213 (by kernel_rfl) rfl
 exact AnyQ.slices_SortFunc Tryz.Kv 2 Tryz.isAgg188 Tryz.sizeOf188 IA (fun _=>rfl) (fun x v hv=>by simp[IA]at hv;rcases hv with rfl|rfl<;>rfl) OI Xv 213 #[] s6 off cap d w eg (Sx s6 off d.size w) hH hblk hsz
theorem HK{b cap:Nat}{l:List ar}{sp:List AV}{s:ab}{Q:List AV→ab→Prop}(hs:s b=some (.cells (flat l++sp)))(hc:0<cap)(hb:l.length<4611686018427387904)
 (hq:∀l':List ar,l'.Perm l→XU l'→Q [] (s.set b (.cells (flat l'++sp)))):FN Tryz.prog 212 [.arr b 0 l.length cap,.fn 213 [] []] s Q:=
 P5 rfl (fun _=>rfl) VO XO JB hs hc hb fun l' h1 h2=>hq l' h1 (h2.imp fun{x y} h=>by
  rw[Fi]at h
  unfold Yh
  simp at h
  omega)
end Go.AB
end
section
set_option maxRecDepth 4000
namespace Go.AB
open Go
def DI:IC:=
 (aj [mv 10 1,bn 11 .add 10 1,mv 8 11] [0,1,2,3,8]
 (.block 0 (.loop [(0,false),(1,false),(2,false),(3,false),(8,false)] (.seq (aj [mv 12 8,mv 13 2,bt 14 .lss 12 13] [0,1,2,3,8,14]
 (.cond (.t 14) .skip
 (.exit 0)))
 (.seq (.block 1 (aj [mv 17 8,mv 9 17] [0,1,2,3,8,9]
 (.block 2 (.loop [(0,false),(1,false),(2,false),(3,false),(8,false),(9,false)] (.seq (.seq (.cU (some 17) [mv 18 9,mv 19 1,bt 20 .gtr 18 19,mv 21 20,b6 22 3 21 true,b6 23 0 21 true,b6 24 9 21 true,cQ 25 21 true (.indexAddr [.int .i64 0,.int .i64 0] (.t 23) (.t 24)),cQ 26 21 true (.load 2 true (.t 25)),b6 27 0 21 true,b6 28 9 21 true,jz 29 21 true .sub 28 1,cQ 30 21 true (.indexAddr [.int .i64 0,.int .i64 0] (.t 27) (.t 29)),cQ 31 21 true (.load 2 true (.t 30)),cQ 32 21 true (.eC (.t 22) [(.t 26),(.t 31)]),jz 33 21 true .lss 32 0,pf 34 21 33] [0,1,2,3,8,9,34])
 (.cond (.t 34) .skip
 (.exit 2)))
 (.seq (.block 3 (.FI [] [(0,0,mv 37 0),(0,1,mv 38 9),(1,2,mv 39 0),(1,3,mv 40 9),(1,4,bn 41 .sub 40 1),(0,5,mv 42 0),(0,6,mv 43 9),(0,7,bn 44 .sub 43 1),(0,8,ia 45 [.int .i64 0,.int .i64 0] 42 44),(0,9,lm 46 2 45),(0,10,mv 47 0),(0,11,mv 48 9),(0,12,ia 49 [.int .i64 0,.int .i64 0] 47 48),(0,13,lm 50 2 49),(0,14,ia 51 [.int .i64 0,.int .i64 0] 37 38),(2,15,st 2 51 46),(0,16,ia 52 [.int .i64 0,.int .i64 0] 39 41),(2,17,st 2 52 50)] [0,1,2,3,8,9]))
 (.cU none [mv 35 9,bn 36 .sub 35 1,mv 9 36] [0,1,2,3,8,9])))))))
 (.cU none [mv 15 8,bn 16 .add 15 1,mv 8 16] [0,1,2,3,8]))))))
def BX:List bj:=[]
theorem K9:bG Go.Proofs.Tryz.prog 278 53 BX DI=true:=by kernel_rfl
def DJ:IC:=
 (aj [dT 10 (.bool true)] [0,1,2,3,4,10]
 (aj [dT 11 (.bool true)] [0,1,2,3,4,10,11]
 (.block 0 (.loop [(0,false),(1,false),(2,false),(3,false),(4,false),(10,false),(11,false)] (.block 1 (aj [mv 21 2,mv 22 1,bt 23 .sub 21 22,mv 12 23] [0,1,2,3,4,10,11,12]
 (.seq (aj [mv 24 12,bn 25 .leq 24 12] [0,1,2,3,4,10,11,12,25]
 (.cond (.t 25) (aj [mv 26 0,mv 27 1,mv 28 2,mv 29 4,Ou 30 278 26 27 28 29] []
 .ret)
 .skip))
 (.seq (aj [mv 31 3,bn 32 .eql 31 0] [0,1,2,3,4,10,11,12,32]
 (.cond (.t 32) (aj [mv 33 0,mv 34 1,mv 35 2,mv 36 4,Ou 37 279 33 34 35 36] []
 .ret)
 .skip))
 (.seq (aj [mv 38 10,no 39 38] [0,1,2,3,4,10,11,12,39]
 (.cond (.t 39) (aj [mv 40 0,mv 41 1,mv 42 2,mv 43 4,Ou 44 280 40 41 42 43] [0,1,2,3,4,10,11,12]
 (.cU none [mv 45 3,bn 46 .sub 45 1,mv 3 46] [0,1,2,3,4,10,11,12]))
 .skip))
 (aj [mv 48 0,mv 49 1,mv 50 2,mv 51 4,Ou 52 281 48 49 50 51,mv 47 52,ex 53 47 0,ex 54 47 1,mv 13 53,mv 14 54] [0,1,2,3,4,10,11,12,13,14]
 (.seq (aj [mv 55 14,bn 56 .eql 55 2] [0,1,2,3,4,10,11,12,13,14,56]
 (.cond (.t 56) (aj [mv 57 0,mv 58 1,mv 59 2,mv 60 4,Ou 61 282 57 58 59 60] [0,1,2,3,4,10,11,12,13]
 (aj [mv 62 2,bn 63 .sub 62 1,mv 64 13,mv 65 1,bt 66 .sub 64 65,bt 67 .sub 63 66,mv 13 67] [0,1,2,3,4,10,11,12,13]
 (.cU none [mi 14 1] [0,1,2,3,4,10,11,12,13,14])))
 .skip))
 (.seq (aj [mv 68 10,mv 69 68,b6 70 11 69 true,pf 71 69 70,mv 72 71,b6 73 14 72 true,jz 74 72 true .eql 73 1,pf 75 72 74] [0,1,2,3,4,10,11,12,13,75]
 (.cond (.t 75) (aj [mv 76 0,mv 77 1,mv 78 2,mv 79 4,Ou 80 283 76 77 78 79] [0,1,2,3,4,10,11,12,13,80]
 (.cond (.t 80) .ret
 .skip))
 .skip))
 (.seq (.seq (.cU (some 17) [mv 81 1,bn 82 .gtr 81 0,mv 83 82,b6 84 4 83 true,b6 85 0 83 true,b6 86 1 83 true,jz 87 83 true .sub 86 1,cQ 88 83 true (.indexAddr [.int .i64 0,.int .i64 0] (.t 85) (.t 87)),cQ 89 83 true (.load 2 true (.t 88)),b6 90 0 83 true,b6 91 13 83 true,cQ 92 83 true (.indexAddr [.int .i64 0,.int .i64 0] (.t 90) (.t 91)),cQ 93 83 true (.load 2 true (.t 92)),cQ 94 83 true (.eC (.t 84) [(.t 89),(.t 93)]),jz 95 83 true .lss 94 0,cQ 96 83 true (.un .not (.t 95)),pf 97 83 96] [0,1,2,3,4,10,11,12,13,97])
 (.cond (.t 97) (aj [mv 98 0,mv 99 1,mv 100 2,mv 101 13,mv 102 4,i1 103 (.call 284 [(.t 98),(.t 99),(.t 100),(.t 101),(.t 102)]),mv 15 103] [0,2,3,4,10,11,15]
 (aj [mv 104 15,mv 1 104] [0,1,2,3,4,10,11]
 (.exit 1)))
 .skip))
 (aj [mv 106 0,mv 107 1,mv 108 2,mv 109 13,mv 110 4,i1 111 (.call 285 [(.t 106),(.t 107),(.t 108),(.t 109),(.t 110)]),mv 105 111,ex 112 105 0,ex 113 105 1,mv 16 112,mv 17 113] [0,1,2,3,4,12,16,17]
 (aj [mv 114 17,mv 11 114] [0,1,2,3,4,11,12,16]
 (aj [mv 115 16,mv 116 1,bt 117 .sub 115 116,mv 118 2,mv 119 16,bt 120 .sub 118 119,mv 18 117,mv 19 120] [0,1,2,3,4,11,12,16,18,19]
 (aj [mv 121 12,bn 122 .quo 121 8,mv 20 122] [0,1,2,3,4,11,16,18,19,20]
 (aj [mv 123 18,mv 124 19,bt 125 .lss 123 124] [0,1,2,3,4,11,16,18,19,20,125]
 (.cond (.t 125) (aj [mv 126 18,mv 127 20,bt 128 .geq 126 127,mv 10 128] [0,1,2,3,4,10,11,16]
 (aj [mv 129 0,mv 130 1,mv 131 16,mv 132 3,mv 133 4,i1 134 (.call 250 [(.t 129),(.t 130),(.t 131),(.t 132),(.t 133)])] [0,2,3,4,10,11,16]
 (.cU none [mv 135 16,bn 136 .add 135 1,mv 1 136] [0,1,2,3,4,10,11])))
 (aj [mv 137 19,mv 138 20,bt 139 .geq 137 138,mv 10 139] [0,1,2,3,4,10,11,16]
 (aj [mv 140 0,mv 141 16,bn 142 .add 141 1,mv 143 2,mv 144 3,mv 145 4,i1 146 (.call 250 [(.t 140),(.t 142),(.t 143),(.t 144),(.t 145)])] [0,1,3,4,10,11,16]
 (.cU none [mv 147 16,mv 2 147] [0,1,2,3,4,10,11]))))))))))))))))))))))
def BZ:List bj:=[]
theorem La:bG Go.Proofs.Tryz.prog 250 148 BZ DJ=true:=by kernel_rfl
def A1:IC:=
 (aj [mv 5 0,le 6 0 5,mv 4 6] [0,1,4]
 (.cU none [mv 7 0,mv 8 4,mv 9 4,i1 10 (.dN .u64 (.t 9)),c1 11 251 10,mv 12 1,i1 13 (.call 250 [(.t 7),(.c (.int .i64 0)),(.t 8),(.t 11),(.t 12)])] []))
def yP:List bj:=[]
theorem IT:bG Go.Proofs.Tryz.prog 212 14 yP A1=true:=by kernel_rfl
theorem Md{s:ab}{Q:List AV→ab→Prop}(hq:Q [.int .i64 0] s):FN Go.Proofs.Tryz.prog 251 [.int .u64 0] s Q:=by
 intro G w vs hg ho c6 ha
 have hvs:vs= #[.int .u64 0]:=by
  obtain⟨h1,h2⟩:=ha
  have h1':vs.size=1:=h1
  apply Array.ext (by simpa using h1')
  intro i hi1 hi2
  have hi:i<1:=by omega
  match i,hi with
  |0,_=>exact VR.bO (h2 0 _ _ rfl (Array.getElem?_eq_getElem (by omega)))
 subst hvs
 have h:=Go.Proofs.Any.bits_Len (Go.Proofs.SlLaysF0.n15.bits (P:=Go.Proofs.Tryz.prog) (ρ:=Go.Proofs.Tryz.yU) {Go.Proofs.Tryz.Kv with}) 0 w (by omega) (by omega)
 refine h.mono ?_
 rintro e w' ⟨rfl,rfl⟩
 exact⟨_,[.int .i64 0],s,G,rfl,hq,hg,c6,⟨.int _ _,trivial⟩,aG.refl G w'⟩
theorem IK{b off:Nat}{s:ab}{Q:List AV→ab→Prop}(hq:Q [] s):FN Go.Proofs.Tryz.prog 278 [.arr b off 0 0,.int .i64 0,.int .i64 0,.fn 213 [] []] s Q:=by
 refine FN.of (ay mix) K9 rfl (Nat.le_of_ble_eq_true rfl) ?_
 rw[DI,BX]
 simp -implicitDefEqProofs only[go_sem,start,ag,an,aA,aD,aB,aC,Nat.reduceBEq,Nat.reduceAdd,Nat.reduceMul,Nat.reduceLeDiff,Nat.reduceEqDiff,Nat.reduceBNe,Nat.ble_eq,UInt8.reduceToNat]
 refine⟨fun τ=>τ=_,fun _=>0,rfl,?_⟩
 rintro τ rfl
 simp -implicitDefEqProofs only[go_sem,start,ag,an,aA,aD,aB,aC,Nat.reduceBEq,Nat.reduceAdd,Nat.reduceMul,Nat.reduceLeDiff,Nat.reduceEqDiff,Nat.reduceBNe,Nat.ble_eq,UInt8.reduceToNat,show az (0+1)=1 from by decide]
 refine⟨fun h=>absurd (of_decide_eq_true h) (by decide),fun _=>?_⟩
 first|exact hq|(simp -implicitDefEqProofs only[go_sem,start,ag,an,aA,aD,aB,aC,Nat.reduceBEq,Nat.reduceAdd,Nat.reduceMul,Nat.reduceLeDiff,Nat.reduceEqDiff,Nat.reduceBNe,Nat.ble_eq,UInt8.reduceToNat];exact hq)
theorem Jm{b off:Nat}{r:Int}{s:ab}{Q:List AV→ab→Prop}(hq:Q [] s):FN Go.Proofs.Tryz.prog 250 [.arr b off 0 0,.int .i64 0,.int .i64 0,.int .i64 r,.fn 213 [] []] s Q:=by
 refine FN.of (ay mix) La rfl (Nat.le_of_ble_eq_true rfl) ?_
 rw[DJ,BZ]
 simp -implicitDefEqProofs only[go_sem,start,ag,an,aA,aD,aB,aC,Nat.reduceBEq,Nat.reduceAdd,Nat.reduceMul,Nat.reduceLeDiff,Nat.reduceEqDiff,Nat.reduceBNe,Nat.ble_eq,UInt8.reduceToNat]
 refine⟨fun τ=>τ=_,fun _=>0,rfl,?_⟩
 rintro τ rfl
 simp -implicitDefEqProofs only[go_sem,start,ag,an,aA,aD,aB,aC,Nat.reduceBEq,Nat.reduceAdd,Nat.reduceMul,Nat.reduceLeDiff,Nat.reduceEqDiff,Nat.reduceBNe,Nat.ble_eq,UInt8.reduceToNat,show az (0 -0)=0 from by decide]
 refine⟨fun _=>IK ?_,fun h=>absurd (of_decide_eq_false h) (by decide)⟩
 simp -implicitDefEqProofs only[go_sem,start,ag,an,aA,aD,aB,aC,Nat.reduceBEq,Nat.reduceAdd,Nat.reduceMul,Nat.reduceLeDiff,Nat.reduceEqDiff,Nat.reduceBNe,Nat.ble_eq,UInt8.reduceToNat]
 exact hq
theorem HJ{b off:Nat}{s:ab}{Q:List AV→ab→Prop}(hq:Q [] s):FN Go.Proofs.Tryz.prog 212 [.arr b off 0 0,.fn 213 [] []] s Q:=by
 refine FN.of (ay mix) IT rfl (Nat.le_of_ble_eq_true rfl) ?_
 rw[A1,yP]
 simp -implicitDefEqProofs only[go_sem,start,ag,an,aA,aD,aB,aC,Nat.reduceBEq,Nat.reduceAdd,Nat.reduceMul,Nat.reduceLeDiff,Nat.reduceEqDiff,Nat.reduceBNe,Nat.ble_eq,UInt8.reduceToNat]
 refine Md ?_
 simp -implicitDefEqProofs only[go_sem,start,ag,an,aA,aD,aB,aC,Nat.reduceBEq,Nat.reduceAdd,Nat.reduceMul,Nat.reduceLeDiff,Nat.reduceEqDiff,Nat.reduceBNe,Nat.ble_eq,UInt8.reduceToNat]
 refine Jm ?_
 simp -implicitDefEqProofs only[go_sem,start,ag,an,aA,aD,aB,aC,Nat.reduceBEq,Nat.reduceAdd,Nat.reduceMul,Nat.reduceLeDiff,Nat.reduceEqDiff,Nat.reduceBNe,Nat.ble_eq,UInt8.reduceToNat]
 exact hq
end Go.AB
end
