/- A part of the proof: Px, Py, Fr, Rg0, Rg1, Spm, Rg2. -/
import Derived.Test.YtkeagffgdajggaaGreatNu13
import Derived.Test.YtkeagffgdajggaaGreatNu14
import Derived.Test.YtkeagffgdajggaaGreatNu15
import Derived.Test.YtkeagffgdajggaaGreatNu12
import Derived.Test.YtkeagffgdajggaaGreatNu11
set_option linter.unusedSimpArgs false
set_option linter.unusedVariables false
section
set_option maxRecDepth 4000
namespace Go.AB
open Go
open Go.Proofs.Tryz (prog)
attribute[-go_sem] Nat.add_zero nr bV cE da bM cD
def OU:IC:=
 (af [i1 2 (.oz 1 (.t 0)),i1 3 (.oz 1 (.t 1)),c6 4 (.oK)] [2,3]
 (.seq (af [ld 5 1 3,bn 6 .lss 5 1] [2,3,6]
 (.cond (.t 6) .dead
 .skip))
 (af [i1 8 (.kq 262 [] [(.t 2),(.t 3)]),mv 4 8] [4]
 .ret)))
theorem WC:aE prog 222 9 [⟨4,true,none⟩] OU=true:=by kernel_rfl
def Ge:IC:=
 (.bN none [c6 2 (.arr 0 0 0 0),mi 3 0] [0])
def Gf:IC:=(.bN none [i1 4 (.gC [.arr 0 0 0 0])] [0,4])
def Gg:IC:=
 (.bN none [mv 7 0,i1 8 (.call 222 [(.t 7),(.c (.int .i64 2))])] [4,8])
def y7:IC:=
 (af [ld 14 1 4,i1 15 (.call 223 [(.t 14),(.c (.fn 224 [] []))])] [4]
 (.seq (af [mi 6 1] [4,6]
 (.block 2 (.loop [(4,false),(6,false)] (.seq (af [mv 16 6,ld 17 1 4,le 18 0 17,bt 19 .lss 16 18] [4,6,19]
 (.cond (.t 19) .skip
 (.exit 2)))
 (.seq (.block 3 (.seq (.bN (some 16) [ld 22 1 4,mv 23 6,ia 24 [.sl false 4 0 []] 22 23,ld 25 1 24,i1 26 (.indexAddr qT (.t 25) (.c (.int .i64 0))),fa 27 2 26,ld 28 1 27,ld 29 1 4,mv 30 6,bn 31 .sub 30 1,ia 32 [.sl false 4 0 []] 29 31,ld 33 1 32,i1 34 (.indexAddr qT (.t 33) (.c (.int .i64 0))),fa 35 2 34,ld 36 1 35,bt 37 .eql 28 36] [4,6,37])
 (.cond (.t 37) (af [c6 2 (.sl true 4 0 []),mi 3 16] [2,3]
 .ret)
 .skip)))
 (.bN none [mv 20 6,bn 21 .add 20 1,mv 6 21] [4,6]))))))
 (af [ld 38 1 4,c1 39 226 38,i1 2 (.T7 4 true (.t 39)),mi 3 0] [2,3]
 .ret)))
def y8:IC:=
 (.block 1 (.bN none [ld 10 1 4,mv 11 5,i1 12 (.bq 1 1 [.sl false 4 0 []] [(0,1,(.t 11))]),i1 13 (.eV 1 24 [.sl false 4 0 []] (.t 10) (.t 12)),st 1 4 13] []))
def oW:List pa:=[⟨2,false,none⟩,⟨3,true,none⟩]
abbrev El(l:List aa):AV:=.sl false 4 l.length (flat l)
theorem Vz{s:ab}{l:List aa}{Q:List AV->ab->Prop}(hq:∀Bs,s Bs=none->∀Bn,(s.set Bs (.cells [El l])) Bn=none->Q [.fn 262 [] [.ref Bs 0,.ref Bn 0]] ((s.set Bs (.cells [El l])).set Bn (.cells [.int .i64 2]))):FN prog 222 [El l,.int .i64 2] s Q:=by
 refine FO WC rfl rfl ?_
 rw[OU]
 have h0:decide ((2:Int)<1)=false:=rfl
 simp -implicitDefEqProofs only[go_sem,seval]
 intro Bs h1 Bn h2
 simp -implicitDefEqProofs only[go_sem,seval,h0,Bool.true_eq_false,Bool.false_eq_true,false_implies,true_implies,true_and,and_true]
 exact hq Bs h1 Bn h2
def cA:Code->Code
 |.seq a _=>a
 |c=>c
def cB:Code->Code
 |.seq _ b=>b
 |c=>c
def rfA:Code->Code
 |.rangeFunc _ _ a _=>a
 |c=>c
def rfB:Code->Code
 |.rangeFunc _ _ _ b=>b
 |c=>c
def cIn:Code->Code
 |.block _ c=>c
 |c=>c
def aei:Code->Array Oper
 |.region _ ops _=>ops
 |_=> #[]
def Ws:IC->List ah
 |.block _ (.bN _ l _)=>l
 |_=>[]
noncomputable def Hi:Code:=(Go.Proofs.Tryz.f182.body).getD .skip
noncomputable def pC1:Code:=cA Hi
noncomputable def pC2:Code:=cA (cB Hi)
noncomputable def pC3:Code:=cA (cA (cB (cB Hi)))
noncomputable def pRf:Code:=cIn (cB (cA (cB (cB Hi))))
noncomputable def pC4:Code:=cB (cB (cB Hi))
noncomputable def Z3:Array Oper:=aei (cIn (rfB pRf))
theorem RI:Go.Proofs.Tryz.f182.body=some (.seq pC1 (.seq pC2 (.seq (.seq pC3 (.block 0 (.rangeFunc (.tmp 8) #[9] (rfA pRf) (rfB pRf)))) pC4))):=by kernel_rfl
theorem acq:rfB pRf=.block 1 (.region 4 Z3 false):=by kernel_rfl
theorem agk:rfA pRf=.region 3 #[{dst:=some 5,op:=.assign (.tmp 9),type:=30,pos:= "parse.go:116",after:= #[],guard:=none}] false:=by kernel_rfl
theorem RJ:mb prog 40 pC1 Ge=true:=by kernel_rfl
theorem RK:mb prog 40 pC2 Gf=true:=by kernel_rfl
theorem RL:mb prog 40 pC3 Gg=true:=by kernel_rfl
theorem RM:mb prog 40 pC4 y7=true:=by kernel_rfl
theorem RN:cc prog 40 Z3 Z3.toList (Ws y8)=true:=by kernel_rfl
theorem PO:Z3.toList.all A7=true:=by kernel_rfl
theorem Uv:jX prog Go.Proofs.Tryz.f182.results.toList oW=true:=by kernel_rfl
theorem XH:Go.Proofs.Tryz.f182.ntmps=40:=by kernel_rfl
def jH(l:List aa)(k:Nat):List aa:=(l.drop (2*k)).take 2
def gW(l:List aa)(k:Nat):List VL:=(List.range k).map (jH l)
theorem Ac(l:List aa)(k:Nat):gW l (k+1)=gW l k++[jH l k]:=by unfold gW;rw[List.range_succ,List.map_append];rfl
theorem C0(l:List aa)(k:Nat):(gW l k).length=k:=by simp[gW]
theorem yN(l:List aa)(k:Nat)(h:2*k+2<=l.length):(jH l k).length=2:=by unfold jH;rw[List.length_take,List.length_drop];omega
theorem VA{w:World}{R:Nat->Nat}{l:List aa}{b off k:Nat}(hR:off+(flat l).length<=R b)(ha:At w R b off (flat l))(hk:2*k+2<=l.length):VR w R (El (jH l k)) (e9 b off k):=by
 obtain⟨u,h1,h2,h3⟩:=ha
 have hs:=lC l 4 (2*k) 2 rfl
 have hl:(flat (jH l k)).length=2*4:=by rw[al,yN l k hk];rfl
 have hfl:(flat l).length=l.length*4:=al l
 have hg:∀(j:Nat)(c:AV),(flat (jH l k))[j]? =some c->(flat l)[2*k*4+j]? =some c:=fun j c hj=>by
  unfold jH at hj
  rw[<-hs,E7]at hj
  split at hj
  ·exact hj
  ·cases hj
 unfold El e9
 rw[yN l k hk]
 refine .sl false 4 2 _ b _ 2 (fun j=>u (2*k*4+j)) (fun c hc=>?_) hl (by omega) (Nat.le_refl _) (fun j c hj=>?_) (fun j c hj=>h2 _ c (hg j c hj))
 ·obtain⟨j,hj⟩:=List.mem_iff_getElem?.1 hc
  exact h3 c (List.mem_of_getElem? (hg j c hj))
 ·rw[Nat.add_assoc];exact h1 _ c (hg j c hj)
def nbB(ls:List VL)(i:Int):Option (Int⊕Bool):=
 bif decide (i<ls.length)then aG (1<=i/\i<2^62/\0<(ix ls i).length/\0<(ix ls (i -1)).length)<|
  bif(ix (ix ls i) 0).S.b==(ix (ix ls (i -1)) 0).S.b then some (.inr true)else some (.inl (i+1))
 else some (.inr false)
def Cu(l:List aa):Option (List aa×Int):=
 aG (0<l.length/\l.length<40/\l.length % 2=0)<|aW (Ub (gW l (l.length/2)) 0 ((l.length/2:Nat):Int)) fun two=>
 aG ((two.all fun c=>decide (0<c.length))=true/\two.length=l.length/2/\two.flatten.length<1000)<|aW (iter (nbB two) 1) fun d=>
 bif d then some ([],16)else some (two.flatten,0)
theorem Ya{s:ab}{r:cU}{ls:List VL}{B:Nat}{o o':SO}(h:gB s r ls)(hB:s B=some o):(gp s r ls).set B o'=gp (s.set B o') r ls/\gB (s.set B o') r ls:=by
 cases r with
 |none=>exact⟨rfl,h⟩
 |some x=>
  obtain⟨rb,cap,sp⟩:=x
  obtain⟨h1,h2⟩:=h
  have hne:B≠rb:=fun e=>by subst e;rw[h1]at hB;cases hB
  refine⟨set_comm hne,⟨by rw[ai hne.symm];exact h1,h2⟩⟩
theorem RO{s s1:ab}{B2 rb cap:Nat}{sp:List AV}{ls:List VL}{own:Bool}{Q:List AV->ab->Prop}(hB:s1 B2=some (.cells [.arr rb 0 ls.length cap]))(hrb:s1 rb=none)(hs:Sub s s1)(hl:ls.length<20)(hl0:0<ls.length)
 (hm:ok (Ub ls 0 ls.length) fun two=>(∀c∈two,0<c.length)/\two.length=ls.length/\two.flatten.length<1000/\ok (iter (nbB two) 1) fun d=>(d=true->∀s',Sub s s'->Q [.sl false 4 0 [],.int .i64 16] s')/\(d=false->∀s',Sub s s'->Q [.sl false 4 two.flatten.length (flat two.flatten),.int .i64 0] s')):
 gO prog y7 (R0 oW Q) ⟨[(4,.ref B2 0)],[],s1.set rb (.cells (flat ls++sp))⟩:=by
 have cJ:room=140737488355328:=rfl
 have hne:B2≠rb:=fun e=>by subst e;rw[hrb]at hB;cases hB
 have hB':∀cs,(s1.set rb (.cells cs)) B2=some (.cells [.arr rb 0 ls.length cap]):=fun cs=>by rw[ai hne];exact hB
 rw[y7,oW]
 simp -implicitDefEqProofs only[go_sem,Nat.reduceBEq,Nat.reduceAdd,Nat.reduceMul,Nat.reduceLeDiff,Nat.reduceEqDiff,Nat.reduceBNe,UInt8.reduceToNat,UInt32.reduceToNat,hB']
 refine UR hrb hl (cI hm fun two⟨oF,hlen,hfl,hn⟩=>?_)
 rw[<-hlen]
 rw[<-hlen]at hB' hl hl0
 simp -implicitDefEqProofs only[go_sem,Nat.reduceBEq,Nat.reduceAdd,Nat.reduceMul,Nat.reduceLeDiff,Nat.reduceEqDiff,Nat.reduceBNe,UInt8.reduceToNat,UInt32.reduceToNat]
 refine bF (fun(i:Int)=>(⟨[(4,.ref B2 0),(6,.int .i64 i)],[],s1.set rb (.cells (flat two++sp))⟩:St)) rfl ?_ hn
 ·intro J i hb
  unfold nbB at hb
  cases hlt:decide (i<two.length)with
  |false=>
   rw[hlt,cond_false,aA]at hb
   simp -implicitDefEqProofs only[go_sem,Nat.reduceBEq,Nat.reduceAdd,Nat.reduceMul,Nat.reduceLeDiff,Nat.reduceEqDiff,Nat.reduceBNe,UInt8.reduceToNat,UInt32.reduceToNat,hB',hlt,Bool.true_eq_false,Bool.false_eq_true,false_implies,true_implies,true_and,and_true]
   simp only[mU]at hb
   refine TR hrb oF (by omega) (by omega) fun s' r' hs' hr'=>?_
   simp -implicitDefEqProofs only[go_sem,Nat.reduceBEq,Nat.reduceAdd,Nat.reduceMul,Nat.reduceLeDiff,Nat.reduceEqDiff,Nat.reduceBNe,UInt8.reduceToNat,UInt32.reduceToNat]
   refine An rfl hr' rfl ?_
   simp -implicitDefEqProofs only[go_sem,Nat.reduceBEq,Nat.reduceAdd,Nat.reduceMul,Nat.reduceLeDiff,Nat.reduceEqDiff,Nat.reduceBNe,UInt8.reduceToNat,UInt32.reduceToNat]
   exact hb.2 trivial s' fun b o h=>hs' b o ((hs.set hrb) b o h)
  |true=>
   rw[hlt,cond_true,dB]at hb
   obtain⟨⟨h1,h2,h3,h4⟩,hb⟩:=hb
   have hi:i<two.length:=by simpa using hlt
   obtain⟨r1,r2⟩:=JZ two sp (j:=i) (by omega) hi
   obtain⟨r3,r4⟩:=JZ two sp (j:=i -1) (by omega) (by omega)
   have w1:bj (i -1)=i -1:=aI (by omega) (by omega)
   have w2:bj (i+1)=i+1:=aI (by omega) (by omega)
   generalize hcs:flat two++sp=cs at*
   have d1:=decide_eq_true r1
   have d3:=decide_eq_true r3
   simp -implicitDefEqProofs only[go_sem,Nat.reduceBEq,Nat.reduceAdd,Nat.reduceMul,Nat.reduceLeDiff,Nat.reduceEqDiff,Nat.reduceBNe,UInt8.reduceToNat,UInt32.reduceToNat,hB',hlt,w1,w2,r2,r4,d1,d3,Bool.true_eq_false,Bool.false_eq_true,false_implies,true_implies,true_and,and_true]
   refine⟨⟨by omega,hi⟩,⟨Int.le_refl _,by omega⟩,⟨by omega,by omega⟩,⟨Int.le_refl _,by omega⟩,fun he=>?_,fun he=>?_⟩
   ·rw[he,cond_true,aA]at hb
    simp only[mU]at hb
    exact hb.1 trivial _ (hs.set hrb)
   ·rw[he,cond_false,aA]at hb
    exact hb
def Lv(s:ab)(B2:Nat)(l:List aa)(k:Nat)(s':ab):Prop:=∃s1 r,s1 B2=some (.cells [iB r k])/\Sub s s1/\gB s1 r (gW l k)/\s'=gp s1 r (gW l k)
theorem Uu{s:ab}{B2:Nat}{l:List aa}{k:Nat}{s':ab}(hs0:s B2=none)(hk:k<20)(hch:(jH l k).length=2)(h:Lv s B2 l k s'):
 swp prog (Ws y8) ⟨[(4,.ref B2 0),(5,El (jH l k))],[],s'⟩ fun E'=>Lv s B2 l (k+1) E'.s:=by
 have cJ:room=140737488355328:=rfl
 obtain⟨s1,r,h1,h2,h3,rfl⟩:=h
 have hB:gp s1 r (gW l k) B2=some (.cells [iB r k]):=jm h3 h1
 have hkl:(gW l k).length=k:=C0 l k
 generalize hst:gp s1 r (gW l k)=st at hB
 rw[y8,Ws]
 unfold El
 simp -implicitDefEqProofs only[go_sem,seval,hB]
 rw[gb]
 have fin:=wQ (E:=?_) (d:=?_) (K:=?_) (by':=24) (s:=s1) (r:=r) (l:=gW l k) (z:=([]:VL)) (v:=(jH l k:VL)) (sz:=1) ?_ h3 rfl (by rw[hkl];omega) ?_
 ·rw[hkl]at fin
  exact fin
 ·exact hst.symm
 ·intro s2 r' g1 g2
  have hB2:s2 B2=some (.cells [iB r k]):=g1 _ _ h1
  have hB3:gp s2 r' (gW l k++[jH l k]) B2=some (.cells [iB r k]):=jm g2 hB2
  rw[hkl]
  generalize L4:gp s2 r' (gW l k++[jH l k])=st2 at hB3
  simp -implicitDefEqProofs only[go_sem,seval,hB3]
  obtain⟨q1,q2⟩:=Ya (o':=.cells [iB r' (k+1)]) g2 hB2
  refine⟨s2.set B2 (.cells [iB r' (k+1)]),r',bd ..,fun b o hb=>?_,?_,?_⟩
  ·have hne:b≠B2:=fun e=>by subst e;rw[hs0]at hb;cases hb
   rw[ai hne]
   exact g1 _ _ (h2 _ _ hb)
  ·rw[Ac];exact q2
  ·rw[Ac,<-L4];exact q1
theorem Zw{n i j:Nat}{x y:AV}{G:Gh}{W:World}{s:ab}{t:Array Value}(hij:i≠j)(hi:i<n)(hj:j<n)(hg:b9 G W)(hs:aP G W s)(ht:t.size=n)(hx:view x=x/\dt x=true)(hy:view y=y/\dt y=true)
 (h1:∀v,t[i]? =some v->VR W G.R x v)(h2:∀v,t[j]? =some v->VR W G.R y v):Inv G n [] ⟨[(i,x),(j,y)],[],s⟩ {tmps:=t,defers:=[]} W:=by
 have lk:∀k,look [(i,x),(j,y)] k=if i=k then x else if j=k then y else .undef:=fun k=>by rw[aM,aM];rfl
 refine⟨hg,hs,ht,fun k v hk=>?_,fun k hk=>?_,fun k d hd=>?_,rfl⟩
 ·show dg G W _ t k (look [(i,x),(j,y)] k) v
  rw[lk]
  by_cases e1:i=k
  ·subst e1;rw[if_pos rfl,<-hx.1];exact dg.A5 hx.2 (h1 v hk)
  ·rw[if_neg e1]
   by_cases e2:j=k
   ·subst e2;rw[if_pos rfl,<-hy.1];exact dg.A5 hy.2 (h2 v hk)
   ·rw[if_neg e2];exact⟨.undef _,trivial⟩
 ·show look [(i,x),(j,y)] k=.undef
  rw[lk,if_neg (by omega),if_neg (by omega)]
 ·have hd:bB (look [(i,x),(j,y)] k) d:=hd
  rw[lk]at hd
  split at hd
  ·exact(eQ hx.2 d hd).elim
  ·split at hd
   ·exact(eQ hy.2 d hd).elim
   ·exact hd.elim
theorem XG{l:List aa}{r:List aa×Int}{s:ab}(h:Cu l=some r):FE prog 182 [El l] s [.sl false 4 r.1.length (flat r.1),.int .i64 r.2] s:=by
 unfold Cu at h
 have h':ok (Cu l) fun x=>x=r:=⟨r,h,rfl⟩
 unfold Cu at h'
 simp only[dB,dF]at h'
 obtain⟨⟨hl0,amp,hl2⟩,hm⟩:=h'
 obtain⟨K,hK⟩:∃K,l.length=2*K:=⟨l.length/2,by omega⟩
 have hK2:l.length/2=K:=by omega
 rw[hK2]at hm
 have ON:(gW l K).length=K:=C0 l K
 refine FN.lr ?_
 intro G w vs hg ho hs ha
 have hI:=Lj (n:=40) hg hs ha (by rfl) (show 1<=40 by decide)
 refine callsIn_wide.1 (callsIn_of_wp_marks (n:=3) Go.Proofs.Tryz.func182 RI trivial ?_ rfl)
 rw[XH]
 have mixed:=mix
 refine piece (Ag mix) RJ hI (ax.refl G w) (fun E'=>E'=⟨[(0,El l)],[],s⟩) ?_ ?_
 ·rw[Ge];unfold El
  simp -implicitDefEqProofs only[go_sem,seval]
 rintro G1 σ1 a1 w1 hI1 hp1 rfl
 refine piece (Ag mix) RK hI1 hp1 (fun E'=>∃B2,s B2=none/\E'=⟨[(0,El l),(4,.ref B2 0)],[],s.set B2 (.cells [.arr 0 0 0 0])⟩) ?_ ?_
 ·rw[Gf];unfold El
  simp -implicitDefEqProofs only[go_sem,seval]
  intro B2 hB2
  exact⟨B2,hB2,rfl⟩
 rintro G2 σ2 a2 w2 hI2 hp2 ⟨B2,hB2,rfl⟩
 refine wpIn_seq (piece (Ag mix) RL hI2 hp2 (fun E'=>∃Bs,(s.set B2 (.cells [.arr 0 0 0 0])) Bs=none/\∃Bn,((s.set B2 (.cells [.arr 0 0 0 0])).set Bs (.cells [El l])) Bn=none/\
  E'=⟨[(4,.ref B2 0),(8,.fn 262 [] [.ref Bs 0,.ref Bn 0])],[],((s.set B2 (.cells [.arr 0 0 0 0])).set Bs (.cells [El l])).set Bn (.cells [.int .i64 2])⟩) ?_ ?_)
 ·rw[Gg];unfold El
  simp -implicitDefEqProofs only[go_sem,seval]
  refine Vz fun Bs h1 Bn h2=>?_
  simp -implicitDefEqProofs only[go_sem,seval]
  exact⟨Bs,h1,Bn,h2,rfl⟩
 rintro G3 σ3 a3 w3 hI3 hp3 ⟨Bs,hBs,Bn,hBn,rfl⟩
 have n1:=hBs
 rw[cY]at n1
 have n2:=hBn
 rw[cY]at n2
 have n3:=n2.2
 rw[cY]at n3
 have hsz:=hI3.size
 have e8:a3.tmps[8]? =some (a3.eval (.tmp 8)):=iE (by rw[hsz];decide)
 have e4:a3.tmps[4]? =some (a3.eval (.tmp 4)):=iE (by rw[hsz];decide)
 have v8:VR w3 G3.R (.fn 262 [] [.ref Bs 0,.ref Bn 0]) (a3.eval (.tmp 8)):=(hI3.ch 8 _ e8).1
 have v4:VR w3 G3.R (.ref B2 0) (a3.eval (.tmp 4)):=(hI3.ch 4 _ e4).1
 obtain⟨vf,vc,hv8,hvf,_,hvc,Zr⟩:=VR.Rc v8
 obtain rfl:vf= #[]:=Array.eq_empty_of_size_eq_zero hvf
 obtain rfl:vc= #[.pointer (some ⟨Bs,0,none⟩),.pointer (some ⟨Bn,0,none⟩)]:=by
  obtain⟨vl⟩:=vc
  match vl,hvc,Zr with
  |[x,y],_,Zr=>rw[VR.iQ (Zr 0 _ x rfl rfl),VR.iQ (Zr 1 _ y rfl rfl)]
 have hBx:(((s.set B2 (.cells [.arr 0 0 0 0])).set Bs (.cells [El l])).set Bn (.cells [.int .i64 2])) Bs=some (.cells [El l]):=by rw[ai n2.1.symm,bd]
 have hBy:(((s.set B2 (.cells [.arr 0 0 0 0])).set Bs (.cells [El l])).set Bn (.cells [.int .i64 2])) Bn=some (.cells [.int .i64 2]):=bd ..
 obtain⟨hOs,_,cs,ts,hhs,⟨ag2,ag3⟩,_⟩:=hI3.store Bs _ hBx
 obtain⟨hOn,_,cn,tn,hhn,⟨akJ,akK⟩,_⟩:=hI3.store Bn _ hBy
 obtain⟨x,rfl⟩:∃x,cs= #[x]:=by
  obtain⟨cl⟩:=cs
  match cl,ag2 with
  |[x],_=>exact⟨x,rfl⟩
 obtain⟨y,rfl⟩:∃y,cn= #[y]:=by
  obtain⟨cl⟩:=cn
  match cl,akJ with
  |[x],_=>exact⟨x,rfl⟩
 have hx:VR w3 G3.R (El l) x:=(ag3 0 _ x rfl rfl).1
 have hy:y=.int .i64 2:=VR.ct (akK 0 _ y rfl rfl).1
 subst hy
 unfold El at hx
 rcases VR.hZ hx with⟨_,he,_⟩|⟨b,off,cap,rfl,hlen,hRb,gZ,hat⟩
 ·exact absurd he (by omega)
 refine wpIn_block ?_
 rw[agk,acq]
 let tA:Nat->Array Value:=fun k=>a3.tmps.setIfInBounds 9 (e9 b off k)
 have ag8:∀k,((#[9]:Array Tmp).zip #[e9 b off k]).foldl (fun t(p,v)=>t.setIfInBounds p v) a3.tmps=tA k:=fun k=>by simp[tA]
 have hav:∀k,k<K->VR w3 G3.R (El (jH l k)) (e9 b off k):=fun k hk=>VA hRb hat (by omega)
 refine aiJ hI3 hv8 (fun args w=>s7 Go.Proofs.Tryz.func262 (by kernel_rfl) (by kernel_rfl) args) (K:=K) (od:=e9 b off) (avs:=fun k=>El (jH l k)) (S:=Lv s B2 l) [Bs,Bn] ?_ hav ?_ (fun k=>({tmps:=tA k,defers:=[]}:Act).put (some 5) (e9 b off k)) ?_ ?_ ?_ ?_
 ·intro b' hb'
  simp only[List.mem_cons,List.not_mem_nil,or_false]at hb'
  rcases hb' with rfl|rfl
  ·exact pR.2 hOs
  ·exact pR.2 hOn
 ·refine⟨_,none,?_,fun b' o hb'=>?_,rfl,rfl⟩
  ·show(if B2∈[Bs,Bn]then none else(((s.set B2 (.cells [.arr 0 0 0 0])).set Bs (.cells [El l])).set Bn (.cells [.int .i64 2])) B2)=_
   rw[if_neg (by simp only[List.mem_cons,List.not_mem_nil,or_false,not_or];exact⟨n1.1.symm,n3.1.symm⟩),ai n3.1.symm,ai n1.1.symm,bd]
   rfl
  ·have e1:b'≠B2:=fun e=>by subst e;rw[hB2]at hb';cases hb'
   have e2:b'≠Bs:=fun e=>by subst e;rw[n1.2]at hb';cases hb'
   have e3:b'≠Bn:=fun e=>by subst e;rw[n3.2]at hb';cases hb'
   show(if b'∈[Bs,Bn]then none else(((s.set B2 (.cells [.arr 0 0 0 0])).set Bs (.cells [El l])).set Bn (.cells [.int .i64 2])) b')=_
   rw[if_neg (by simp only[List.mem_cons,List.not_mem_nil,or_false,not_or];exact⟨e2,e3⟩),ai e3,ai e2,ai e1]
   exact hb'
 ·intro lo J W hbx hdr hY h0
  have c1:w3.cell? ⟨Bs,0,none⟩=some (.slice (some ⟨b,off,none⟩) (2*K) cap):=by rw[<-hK];simp[World.cell?,hhs]
  have c2:w3.cell? ⟨Bn,0,none⟩=some (.int .i64 2):=by simp[World.cell?,hhn]
  exact TP (lo:=lo) (Bs:=Bs) (Bn:=Bn) (b:=b) (off:=off) (K:=K) (cap:=cap) (by omega) (by omega) (fun k W h=>⟨(World.cell?_of_block (hbx k W h Bs (by simp))).trans c1,(World.cell?_of_block (hbx k W h Bn (by simp))).trans c2⟩) hdr hY h0
 ·intro lo k W K' hk
  rw[ag8]
  have hev:({tmps:=tA k,defers:=[]}:Act).eval (.tmp 9)=e9 b off k:=by
   show(a3.tmps.setIfInBounds 9 (e9 b off k)).getD 9 undef=_
   rw[Array.getD_eq_getD_getElem?,Array.getElem?_setIfInBounds_self_of_lt (by rw[hsz];decide)]
   rfl
  refine wpIn_region_list (wpListIn_plain rfl fun K2 hK2=>⟨fun _ _=>trivial,?_⟩)
  rw[<-hev]at hk
  exact hK2 _ _ hk
 ·intro k hk lo G' W s' g1 g2 g3 hS hv R hR
  refine X8 RN PO (Zw (n:=40) (i:=4) (j:=5) (x:=.ref B2 0) (y:=El (jH l k)) (t:=(tA k).setIfInBounds 5 (e9 b off k)) (by decide) (by decide) (by decide) g1 g3 ?_ ⟨rfl,rfl⟩ ⟨rfl,rfl⟩ ?_ ?_) (Uu hB2 (by omega) (yN l k (by omega)) hS) hR
  ·show((a3.tmps.setIfInBounds 9 _).setIfInBounds 5 _).size=_
   rw[Array.size_setIfInBounds,Array.size_setIfInBounds,hsz]
  ·intro v hv4
   have hv4:((a3.tmps.setIfInBounds 9 (e9 b off k)).setIfInBounds 5 (e9 b off k))[4]? =some v:=hv4
   rw[Array.getElem?_setIfInBounds_ne (by decide),Array.getElem?_setIfInBounds_ne (by decide),e4,VR.iQ v4]at hv4
   injection hv4 with hv4
   rw[<-hv4]
   exact .ref _ _
  ·intro v hv5
   have hv5:((a3.tmps.setIfInBounds 9 (e9 b off k)).setIfInBounds 5 (e9 b off k))[5]? =some v:=hv5
   rw[Array.getElem?_setIfInBounds_self_of_lt (by rw[Array.size_setIfInBounds,hsz];decide)]at hv5
   injection hv5 with hv5
   rw[<-hv5]
   exact hv
 ·intro G4 W4 s4 hS hI4 hp4 amo
  obtain⟨s1,r1,h1,h2,h3,rfl⟩:=hS
  obtain⟨rb,amg,sp,rfl⟩:=Nf h3 (by rw[ON];omega)
  have hlt:w3.heap.size<(w3.alloc (.deferred (some []))).heap.size:=by rw[World.size_alloc];omega
  refine last (Ag mix) RM (hI4.zm [4]) hp4 (R0 oW fun rs s''=>∃s2,Sub s2 s''/\(rs=[.sl false 4 r.1.length (flat r.1),.int .i64 r.2]/\s2=s)) ?_ ?_
  ·refine RO (s:=s) (own:=true) (by rw[ON];exact h1) h3.1 h2 (by rw[ON];omega) (by rw[ON];omega) ?_
   rw[ON]
   refine cI hm fun two⟨⟨q1,q2,q3⟩,q4⟩=>⟨fun c hc=>?_,q2,q3,cI q4 fun d hd=>⟨fun e s' hs'=>?_,fun e s' hs'=>?_⟩⟩
   ·have:=List.all_eq_true.1 q1 c hc
    simpa using this
   ·rw[e,cond_true,aA]at hd
    subst hd
    exact⟨s,hs',rfl,rfl⟩
   ·rw[e,cond_false,aA]at hd
    subst hd
    exact⟨s,hs',rfl,rfl⟩
  ·intro x G5 E' a' W5 k1 k2 k3
   have LZ:∀(eo:IJ (ot E' oW)=true)(hq:∃s2,Sub s2 E'.s/\(ot E' oW=[.sl false 4 r.1.length (flat r.1),.int .i64 r.2]/\s2=s)),_:=fun eo hq=>X6 (Q:=fun rs s''=>∃s2,Sub s2 s''/\(rs=[.sl false 4 r.1.length (flat r.1),.int .i64 r.2]/\s2=s)) Uv k1 ((hp3.trans (gL hI3.aS _ .frame 0).2.1).trans k2) (k2.jJ _ hlt (by simp)).1 ((k2.jJ _ hlt (by simp)).2.trans (by simp)) ((k2.frame _ hlt (.inl (by simp))).trans (World.alloc_heap_new w3 _)) hp3.size eo hq
   cases x with
   |ret=>exact LZ k3.1 k3.2
   |normal=>exact LZ k3.1 k3.2
   |_=>exact k3.elim
theorem Z7:zU Cu:=fun _ _ _ h=>XG h
def qp(b:List UInt8)(a:Int)(last:Bool):Option (aa×Int×Int):=sW Cu b a last
theorem wc{b:List UInt8}{a:Int}{last:Bool}{s:ab}{r:aa×Int×Int}(h:qp b a last=some r):FE prog 36 [.sl false 1 b.length (flat b),.int .i64 a,.bool last] s
 [.agg [.int .i64 r.1.Kind,.int .i64 r.1.N,.str r.1.S.b,.sl false 4 r.1.L.length (flat r.1.L)],.int .i64 r.2.1,.int .i64 r.2.2] s:=
 FN.lr (Yr Z7 ⟨r,h,fun s' hs=>⟨s,hs,rfl,rfl⟩⟩)
end Go.AB
end
section
end
section
set_option maxRecDepth 4000
namespace Go.AB
open Go
open Go.Proofs.Tryz (prog)
attribute[-go_sem] cE da bM cD
structure fu where
 b_:(List UInt8)
 at_:Int
 bz:Bool
instance:aK fu:=⟨3,fun x=>[sF 1 x.b_,.int .i64 x.at_,.bool x.bz],(fu.mk [] 0 false),by decide,fun _=>rfl,fun _=>rfl⟩
structure cH where
 aO:fu
 e_:Int
instance:aK cH:=⟨4,fun x=>[sF 1 x.aO.b_,.int .i64 x.aO.at_,.bool x.aO.bz,.int .i64 x.e_],(cH.mk (fu.mk [] 0 false) 0),by decide,fun _=>rfl,fun _=>rfl⟩
structure ag where
 V:aa
 Stream:Bool
 Data:aw
instance:aK ag:=⟨6,fun x=>[.int .i64 x.V.Kind,.int .i64 x.V.N,.str x.V.S.b,sF 4 x.V.L,.bool x.Stream,.str x.Data.b],(ag.mk (aa.mk 0 0 (aw.mk []) []) false (aw.mk [])),by decide,fun _=>rfl,fun _=>rfl⟩
@[go_sem]theorem ju(x:ag):aK.cells x=[.int .i64 x.V.Kind,.int .i64 x.V.N,.str x.V.S.b,sF 4 x.V.L,.bool x.Stream,.str x.Data.b]:=rfl
@[go_sem]theorem lQ(l:List ag)(i:Int):pad [.int .i64 0,.int .i64 0,.str [],.sl false 4 0 [],.bool false,.str []] (views (AB.sub (flat l) (i.toNat*6) 6))=[.int .i64 (((ix l i).V).Kind),.int .i64 (((ix l i).V).N),.str (((ix l i).V).S).b,.sl false 4 (((ix l i).V).L).length (flat (((ix l i).V).L)),.bool ((ix l i).Stream),.str ((ix l i).Data).b]:=by rw[<-ju];exact rB _ 6 l i (by rw[ju];rfl) rfl
def iP(r_0:cH)(w_1:aw):Option (cH):=
 if r_0.e_ !=0 then
  none
 else
  aW (kz r_0.aO.b_ r_0.aO.at_ r_0.aO.bz w_1) fun r1=>
  some (cH.mk (fu.mk r_0.aO.b_ r1.1 r_0.aO.bz) r1.2)
def nw:IC:=
 (.seq (af [mv 4 0,nc 5 4,fa 6 3 5,i1 7 (.bf jV false (.t 6)),bn 8 .neq 7 0] [0,1,8]
 (.cond (.t 8) .dead
 .skip))
 (.HM [] [(1,0,mv 10 0),(1,1,mv 11 0),(0,2,mv 12 0),(0,3,nc 13 12),(0,4,fa 14 0 13),(0,5,fa 15 0 14),(0,6,i1 16 (.bf [.sl false 1 0 []] false (.t 15))),(0,7,mv 17 0),(0,8,nc 18 17),(0,9,fa 19 0 18),(0,10,fa 20 1 19),(0,11,i1 21 (.bf jV false (.t 20))),(0,12,mv 22 0),(0,13,nc 23 22),(0,14,fa 24 0 23),(0,15,fa 25 2 24),(0,16,i1 26 (.bf [.bool false] false (.t 25))),(0,17,mv 27 1),(2,18,UG 28 70 16 21 26 27),(0,19,iV 9 28),(0,20,ex 29 9 0),(1,21,ex 30 9 1),(0,22,nc 31 10),(0,23,fa 32 0 31),(0,24,fa 33 1 32),(2,25,st 1 33 29),(0,26,nc 34 11),(0,27,fa 35 3 34),(2,28,st 1 35 30)] []))
theorem vD:aE prog 170 36 [] nw=true:=by kernel_rfl
theorem uQ{r_0 w_1}{B0:Nat}{s:ab}{Q:List AV->ab->Prop}(hB0:s B0=some (.cells [sF 1 r_0.aO.b_,.int .i64 r_0.aO.at_,.bool r_0.aO.bz,.int .i64 r_0.e_])):ok (iP r_0 w_1) (fun r=>Q [] (s.set B0 (.cells [sF 1 r.aO.b_,.int .i64 r.aO.at_,.bool r.aO.bz,.int .i64 r.e_])))->FN prog 170 [.ref B0 0,.str w_1.b] s Q:=by
 have hS:s=(s.set B0 (.cells [sF 1 r_0.aO.b_,.int .i64 r_0.aO.at_,.bool r_0.aO.bz,.int .i64 r_0.e_])):=by simp only[dN hB0]
 rw[hS]
 intro h
 refine FO vD rfl rfl ?_
 revert h
 rw[nw,iP]
 repeat'(first
  |(with_reducible first|exact cW|refine bK ?_ ?_|refine de ?_|refine ak (fun _(h:kz r_0.aO.b_ r_0.aO.at_ r_0.aO.bz w_1=some _)=>yu h) (fun r1=>?_))
  |simp -implicitDefEqProofs only[go_sem,seval])
def ed(r_0:cH)(LX:Int)(aaE:Int):Option (Int×cH):=
 if r_0.e_ !=0 then
  none
 else
  aW (fq r_0.aO.b_ r_0.aO.at_ r_0.aO.bz) fun r1=>
  if(r1.2.2==0)&&((decide (r1.1<LX))||(decide (r1.1>aaE)))then
   none
  else
   some (r1.1,(cH.mk (fu.mk r_0.aO.b_ r1.2.1 r_0.aO.bz) r1.2.2))
def lH:IC:=
 (af [mi 6 0] [0,1,2]
 (.seq (af [mv 10 0,nc 11 10,fa 12 3 11,i1 13 (.bf jV false (.t 12)),bn 14 .neq 13 0] [0,1,2,14]
 (.cond (.t 14) .dead
 .skip))
 (.seq (.bN (some 23) [mv 16 0,nc 17 16,fa 18 0 17,fa 19 0 18,i1 20 (.bf [.sl false 1 0 []] false (.t 19)),mv 21 0,nc 22 21,fa 23 0 22,fa 24 1 23,i1 25 (.bf jV false (.t 24)),mv 26 0,nc 27 26,fa 28 0 27,fa 29 2 28,i1 30 (.bf [.bool false] false (.t 29)),c3 31 69 20 25 30,iV 15 31,ex 32 15 0,ex 33 15 1,ex 34 15 2,mv 7 32,mv 8 33,mv 9 34] [0,1,2,7,8,9])
 (.seq (af [mv 35 9,bn 36 .eql 35 0,mv 37 36,dh 38 7 37 true,dh 39 1 37 true,sY 40 37 true .lss 38 39,dh 41 40 37 true,dh 42 7 41 false,dh 43 2 41 false,sY 44 41 false .gtr 42 43,dq 45 37 true (.pick (.t 41) (.c (.bool true)) (.t 44)),pf 46 37 45] [0,7,8,9,46]
 (.cond (.t 46) .dead
 .skip))
 (af [mv 47 0,mv 48 0,mv 49 8,mv 50 9,nc 51 47,fa 52 0 51,fa 53 1 52,st 1 53 49,nc 54 48,fa 55 3 54,st 1 55 50] [7]
 (af [mv 56 7,mv 6 56] [6]
 .ret))))))
theorem sL:aE prog 169 57 [⟨6,true,none⟩] lH=true:=by kernel_rfl
theorem lE{r_0 LX aaE}{B0:Nat}{s:ab}{Q:List AV->ab->Prop}(hB0:s B0=some (.cells [sF 1 r_0.aO.b_,.int .i64 r_0.aO.at_,.bool r_0.aO.bz,.int .i64 r_0.e_])):ok (ed r_0 LX aaE) (fun r=>Q [.int .i64 r.1] (s.set B0 (.cells [sF 1 r.2.aO.b_,.int .i64 r.2.aO.at_,.bool r.2.aO.bz,.int .i64 r.2.e_])))->FN prog 169 [.ref B0 0,.int .i64 LX,.int .i64 aaE] s Q:=by
 have hS:s=(s.set B0 (.cells [sF 1 r_0.aO.b_,.int .i64 r_0.aO.at_,.bool r_0.aO.bz,.int .i64 r_0.e_])):=by simp only[dN hB0]
 rw[hS]
 intro h
 refine FO sL rfl rfl ?_
 revert h
 rw[lH,ed]
 repeat'(first
  |(with_reducible first|exact cW|refine bK ?_ ?_|refine de ?_|refine b6 (fun _(h:fq r_0.aO.b_ r_0.aO.at_ r_0.aO.bz=some _)=>n9 h) (fun _=>rfl) (fun r1=>?_))
  |simp -implicitDefEqProofs only[go_sem,seval])
def gY(r_0:cH):Option (aa×cH):=
 if r_0.e_ !=0 then
  none
 else
  aW (qp r_0.aO.b_ r_0.aO.at_ r_0.aO.bz) fun r1=>
  some (r1.1,(cH.mk (fu.mk r_0.aO.b_ r1.2.1 r_0.aO.bz) r1.2.2))
def me:IC:=
 (af [i1 2 (.aq iA)] [0,2]
 (.seq (af [mv 6 0,nc 7 6,fa 8 3 7,i1 9 (.bf jV false (.t 8)),bn 10 .neq 9 0] [0,2,10]
 (.cond (.t 10) .dead
 .skip))
 (.seq (.wq [3] 24 [mv 13 0,nc 14 13,fa 15 0 14,fa 16 0 15,i1 17 (.bf [.sl false 1 0 []] false (.t 16)),mv 18 0,nc 19 18,fa 20 0 19,fa 21 1 20,i1 22 (.bf jV false (.t 21)),mv 23 0,nc 24 23,fa 25 0 24,fa 26 2 25,i1 27 (.bf [.bool false] false (.t 26)),c3 28 36 17 22 27,iV 12 28,ex 29 12 0,ex 30 12 1,ex 31 12 2,i1 3 (.aq iA),st 4 3 29,mv 4 30,mv 5 31] [0,2,3,4,5])
 (af [mv 32 0,mv 33 0,mv 34 4,mv 35 5,nc 36 32,fa 37 0 36,fa 38 1 37,st 1 38 34,nc 39 33,fa 40 3 39,st 1 40 35] [2,3]
 (af [lm 41 4 3,st 4 2 41] [2]
 .ret)))))
theorem uh:aE prog 172 42 [⟨2,false,some (4,true)⟩] me=true:=by kernel_rfl
theorem uf{r_0}{B0:Nat}{s:ab}{Q:List AV->ab->Prop}(hB0:s B0=some (.cells [sF 1 r_0.aO.b_,.int .i64 r_0.aO.at_,.bool r_0.aO.bz,.int .i64 r_0.e_])):ok (gY r_0) (fun r=>Q [oV r.1] (s.set B0 (.cells [sF 1 r.2.aO.b_,.int .i64 r.2.aO.at_,.bool r.2.aO.bz,.int .i64 r.2.e_])))->FN prog 172 [.ref B0 0] s Q:=by
 have hS:s=(s.set B0 (.cells [sF 1 r_0.aO.b_,.int .i64 r_0.aO.at_,.bool r_0.aO.bz,.int .i64 r_0.e_])):=by simp only[dN hB0]
 rw[hS]
 intro h
 refine FO uh rfl rfl ?_
 revert h
 rw[me,gY]
 repeat'(first
  |with_reducible exact cW
  |((with_reducible refine QB ?_ ?_);exact rfl)
  |(with_reducible first|refine bK ?_ ?_|refine de ?_|refine b6 (fun _(h:qp r_0.aO.b_ r_0.aO.at_ r_0.aO.bz=some _)=>wc h) (fun _=>rfl) (fun r1=>?_))
  |simp -implicitDefEqProofs only[go_sem,seval])
def fY(r_0:cH):Option (Bool×cH):=
 if r_0.e_ !=0 then
  none
 else
  aW (dT r_0.aO.b_ r_0.aO.at_ r_0.aO.bz) fun r1=>
  if r1.2 !=0 then
   none
  else
   if r1.1.Kind==0 then
    none
   else
    if(r1.1.Kind !=6)||((!(r1.1.S.b==(aw.mk [101,110,100,111,98,106]).b))&&(!(r1.1.S.b==(aw.mk [115,116,114,101,97,109]).b)))then
     none
    else
     some ((r1.2==0)&&(r1.1.S.b==(aw.mk [115,116,114,101,97,109]).b),(cH.mk (fu.mk r_0.aO.b_ r1.1.To r_0.aO.bz) r1.2))
def kI:IC:=
 (af [c6 2 (.bool false)] [0]
 (.seq (af [mv 5 0,nc 6 5,fa 7 3 6,i1 8 (.bf jV false (.t 7)),bn 9 .neq 8 0] [0,9]
 (.cond (.t 9) .dead
 .skip))
 (.seq (.wq [3] 22 [mv 11 0,nc 12 11,fa 13 0 12,fa 14 0 13,i1 15 (.bf [.sl false 1 0 []] false (.t 14)),mv 16 0,nc 17 16,fa 18 0 17,fa 19 1 18,i1 20 (.bf jV false (.t 19)),mv 21 0,nc 22 21,fa 23 0 22,fa 24 2 23,i1 25 (.bf [.bool false] false (.t 24)),c3 26 127 15 20 25,iV 10 26,ex 27 10 0,ex 28 10 1,i1 3 (.aq BB),st 8 3 27,mv 4 28] [0,3,4])
 (af [mv 29 0,mv 30 0,fa 31 2 3,ld 32 1 31,mv 33 4,nc 34 29,fa 35 0 34,fa 36 1 35,st 1 36 32,nc 37 30,fa 38 3 37,st 1 38 33] [0,3,4]
 (.seq (.block 0 (af [mv 40 4,bn 41 .neq 40 0,mv 39 41] [0,3,39]
 (.cond (.t 39) .dead
 (af [fa 43 0 3,ld 44 1 43,bn 45 .eql 44 0,mv 42 45] [0,3,42]
 (.cond (.t 42) .dead
 (af [fa 49 0 3,ld 50 1 49,bn 51 .neq 50 6,mv 52 51,fg 53 52 false 7 3,lg 54 52 false 1 53,dq 55 52 false (.bin .neq (.t 54) (.c (.str [101,110,100,111,98,106]))),dh 56 55 52 false,fg 57 56 true 7 3,lg 58 56 true 1 57,dq 59 56 true (.bin .neq (.t 58) (.c (.str [115,116,114,101,97,109]))),dq 60 52 false (.pick (.t 56) (.t 59) (.c (.bool false))),po 61 52 60,mv 48 61] [0,3,48]
 (.cond (.t 48) .dead
 .skip)))))))
 (af [mv 64 0,nc 65 64,fa 66 3 65,i1 67 (.bf jV false (.t 66)),bn 68 .eql 67 0,mv 69 68,fg 70 69 true 7 3,lg 71 69 true 1 70,dq 72 69 true (.bin .eql (.t 71) (.c (.str [115,116,114,101,97,109]))),pf 73 69 72,mv 2 73] [2]
 .ret))))))
theorem rQ:aE prog 173 74 [⟨2,true,none⟩] kI=true:=by kernel_rfl
theorem rC{r_0}{B0:Nat}{s:ab}{Q:List AV->ab->Prop}(hB0:s B0=some (.cells [sF 1 r_0.aO.b_,.int .i64 r_0.aO.at_,.bool r_0.aO.bz,.int .i64 r_0.e_])):ok (fY r_0) (fun r=>Q [.bool r.1] (s.set B0 (.cells [sF 1 r.2.aO.b_,.int .i64 r.2.aO.at_,.bool r.2.aO.bz,.int .i64 r.2.e_])))->FN prog 173 [.ref B0 0] s Q:=by
 have hS:s=(s.set B0 (.cells [sF 1 r_0.aO.b_,.int .i64 r_0.aO.at_,.bool r_0.aO.bz,.int .i64 r_0.e_])):=by simp only[dN hB0]
 rw[hS]
 intro h
 refine FO rQ rfl rfl ?_
 revert h
 rw[kI,fY]
 repeat'(first
  |with_reducible exact cW
  |((with_reducible refine QB ?_ ?_);exact rfl)
  |(with_reducible first|refine bK ?_ ?_|refine de ?_|refine b6 (fun _(h:dT r_0.aO.b_ r_0.aO.at_ r_0.aO.bz=some _)=>kN h) (fun _=>rfl) (fun r1=>?_))
  |simp -implicitDefEqProofs only[go_sem,seval])
def lD(v_0:aa):Option (ag):=some (ag.mk v_0 false (aw.mk []))
def tG:IC:=
 (af [i1 1 (.dc 4 (.t 0)),i1 2 (.aq zz)] [1,2]
 (af [lm 3 4 1,i1 4 (.build zz [(0,4,(.t 3))]),st 6 2 4] [2]
 .ret))
theorem DT:aE prog 171 5 [⟨2,false,some (6,true)⟩] tG=true:=by kernel_rfl
theorem DI{v_0}{s:ab}{Q:List AV->ab->Prop}:ok (lD v_0) (fun r=>Q [.agg [.int .i64 r.V.Kind,.int .i64 r.V.N,.str r.V.S.b,sF 4 r.V.L,.bool r.Stream,.str r.Data.b]] s)->FN prog 171 [oV v_0] s Q:=by
 intro h
 refine FO DT rfl rfl ?_
 revert h
 rw[tG,lD]
 repeat'(first
  |simp -implicitDefEqProofs only[go_sem,seval])
theorem DH{v_0}{s:ab}{r:ag}(h:lD v_0=some r):FE prog 171 [oV v_0] s [.agg [.int .i64 r.V.Kind,.int .i64 r.V.N,.str r.V.S.b,sF 4 r.V.L,.bool r.Stream,.str r.Data.b]] s:=DI ⟨r,h,rfl,rfl⟩
def qf(b_0:(List UInt8))(cN:Int)(bG:Bool):Option (Int×ag×Int×Int):=
 aW (ed (cH.mk (fu.mk b_0 cN bG) 0) 1 4096) fun r1=>
 aW (ed r1.2 0 0) fun r2=>
 aW (iP r2.2 (aw.mk [111,98,106])) fun r3=>
 aW (gY r3) fun r4=>
 aW (lD r4.1) fun r5=>
 aW (fY r4.2) fun r6=>
 if r6.1 then
  none
 else
  if r6.2.e_ !=0 then
   none
  else
   some (r1.1,r5,r6.2.aO.at_,0)
def u5:IC:=
 (af [mi 6 0,i1 7 (.aq zz),mi 8 0,mi 9 0] [0,1,2,7]
 (af [mt 13 0,mv 14 1,mv 15 2,i1 16 (.build [.sl true 1 0 [],.int .i64 0,.bool false] [(0,1,(.t 13)),(1,1,(.t 14)),(2,1,(.t 15))]),i1 17 (.build [.sl true 1 0 [],.int .i64 0,.bool false,.int .i64 0] [(0,3,(.t 16))]),i1 18 (.oz 4 (.t 17)),mv 10 18] [7,10]
 (af [mv 19 10,i1 20 (.call 169 [(.t 19),(.c (.int .i64 1)),(.c (.int .i64 4096))]),mv 11 20] [7,10,11]
 (af [mv 21 10,i1 22 (.call 169 [(.t 21),(.c (.int .i64 0)),(.c (.int .i64 0))])] [7,10,11]
 (af [mv 23 10,i1 24 (.call 170 [(.t 23),(.c (.str [111,98,106]))])] [7,10,11]
 (af [mv 25 10,c1 26 172 25,c1 27 171 26,i1 12 (.aq zz),st 6 12 27] [7,10,11,12]
 (.seq (af [mv 28 10,c1 29 173 28] [7,10,11,12,29]
 (.cond (.t 29) .dead
 .skip))
 (.seq (af [mv 34 10,nc 35 34,fa 36 3 35,i1 37 (.bf jV false (.t 36)),bn 38 .neq 37 0] [7,10,11,12,38]
 (.cond (.t 38) .dead
 .skip))
 (.seq (.wq [7] 11 [mv 44 11,lm 45 6 12,mv 46 10,nc 47 46,fa 48 0 47,fa 49 1 48,i1 50 (.bf jV false (.t 49)),mv 6 44,st 6 7 45,mv 8 50,mi 9 0] [6,7,8,9])
 .ret)))))))))
theorem Gr:aE prog 118 51 [⟨6,true,none⟩,⟨7,false,some (6,true)⟩,⟨8,true,none⟩,⟨9,true,none⟩] u5=true:=by kernel_rfl
theorem FU{b_0 cN bG}{s:ab}{Q:List AV->ab->Prop}:ok (qf b_0 cN bG) (fun r=>Q [.int .i64 r.1,.agg [.int .i64 r.2.1.V.Kind,.int .i64 r.2.1.V.N,.str r.2.1.V.S.b,sF 4 r.2.1.V.L,.bool r.2.1.Stream,.str r.2.1.Data.b],.int .i64 r.2.2.1,.int .i64 r.2.2.2] s)->FN prog 118 [sF 1 b_0,.int .i64 cN,.bool bG] s Q:=by
 intro h
 refine FN.forget ?_
 refine FO Gr rfl rfl ?_
 revert h
 rw[u5,qf]
 repeat'(first
  |(with_reducible first|exact cW|refine bK ?_ ?_|refine de ?_|refine fun hh=>lE (B0:=N1) (by simp -implicitDefEqProofs only[go_sem,seval]<;>simp only[bH]) (cI (show ok (ed (cH.mk (fu.mk b_0 cN bG) 0) 1 4096) _ from hh) fun r1=>?_)|refine fun hh=>lE (B0:=N1) (by simp -implicitDefEqProofs only[go_sem,seval]<;>simp only[bH]) (cI (show ok (ed r1.2 0 0) _ from hh) fun r2=>?_)|refine fun hh=>uQ (B0:=N1) (by simp -implicitDefEqProofs only[go_sem,seval]<;>simp only[bH]) (cI (show ok (iP r2.2 (aw.mk [111,98,106])) _ from hh) fun r3=>?_)|refine fun hh=>uf (B0:=N1) (by simp -implicitDefEqProofs only[go_sem,seval]<;>simp only[bH]) (cI (show ok (gY r3) _ from hh) fun r4=>?_)|refine ak (fun _(h:lD r4.1=some _)=>DH h) (fun r5=>?_)|refine fun hh=>rC (B0:=N1) (by simp -implicitDefEqProofs only[go_sem,seval]<;>simp only[bH]) (cI (show ok (fY r4.2) _ from hh) fun r6=>?_))
  |((fail_if_success (have _x:=sN1));with_reducible intro hh N1 hN1;(try simp only[cY]at hN1);have sN1:=hN1;revert hh)
  |with_reducible exact fun hh=>⟨_,lx.set (lx.refl _) (by simp[ab.set,sN1]),hh⟩
  |simp -implicitDefEqProofs only[go_sem,seval])
theorem FT{b_0 cN bG}{s:ab}{r:Int×ag×Int×Int}(h:qf b_0 cN bG=some r):FE prog 118 [sF 1 b_0,.int .i64 cN,.bool bG] s [.int .i64 r.1,.agg [.int .i64 r.2.1.V.Kind,.int .i64 r.2.1.V.N,.str r.2.1.V.S.b,sF 4 r.2.1.V.L,.bool r.2.1.Stream,.str r.2.1.Data.b],.int .i64 r.2.2.1,.int .i64 r.2.2.2] s:=FU ⟨r,h,rfl,rfl⟩
end Go.AB
end
section
set_option maxRecDepth 4000
namespace Go.AB
open Go
open Go.Proofs.Tryz (prog)
theorem FN.args{P:Program}{f:FuncId}{args tv:List AV}{s:ab}{Q:List AV->ab->Prop}(h:FN P f tv s Q)(ha:∀(G:Gh)(w:World)(vs:Array Value),aP G w s->kH w G.R args vs->kH w G.R tv vs):FN P f args s Q:=fun G w vs h1 h2 h3 h4=>h G w vs h1 h2 h3 (ha G w vs h3 h4)
structure aj where
 bW:Int
 To:Int
 deriving DecidableEq
instance:aK aj:=⟨2,fun x=>[.int .i64 x.bW,.int .i64 x.To],(aj.mk 0 0),by decide,fun _=>rfl,fun _=>rfl⟩
@[go_sem]theorem uK(x:aj):aK.cells x=[.int .i64 x.bW,.int .i64 x.To]:=rfl
@[go_sem]theorem Z5(l:List aj)(i:Int):pad [.int .i64 0,.int .i64 0] (views (AB.sub (flat l) (i.toNat*2) 2))=[.int .i64 ((ix l i).bW),.int .i64 ((ix l i).To)]:=by rw[<-uK];exact rB _ 2 l i (by rw[uK];rfl) rfl
def kF(x_0:aj):Option (Bool):=some ((decide (x_0.bW<0))||(decide (x_0.To<=x_0.bW)))
def yh:IC:=
 (af [i1 1 (.dc 2 (.t 0)),c6 2 (.bool false)] [1]
 (af [fa 3 0 1,ld 4 1 3,bn 5 .lss 4 0,mv 6 5,fg 7 6 false 1 1,lg 8 6 false 1 7,fg 9 6 false 0 1,lg 10 6 false 1 9,sY 11 6 false .leq 8 10,po 12 6 11,mv 2 12] [2]
 .ret))
theorem Jq:aE prog 175 13 [⟨2,true,none⟩] yh=true:=by kernel_rfl
theorem J4{x_0}{s:ab}{Q:List AV->ab->Prop}:ok (kF x_0) (fun r=>Q [.bool r] s)->FN prog 175 [.agg [.int .i64 x_0.bW,.int .i64 x_0.To]] s Q:=by
 intro h
 refine FO Jq rfl rfl ?_
 revert h
 rw[yh,kF]
 repeat'(first
  |simp -implicitDefEqProofs only[go_sem,seval])
theorem qV{x_0}{s:ab}{r:Bool}(h:kF x_0=some r):FE prog 175 [.agg [.int .i64 x_0.bW,.int .i64 x_0.To]] s [.bool r] s:=J4 ⟨r,h,rfl,rfl⟩
def aV(s_0:(List aj)):Option (Int):=
 yp (
  jG (
   iter (fun(t2:Int)=>
    if decide (t2<(s_0.length:Int))then
     aG (0<=t2/\t2<s_0.length)<|
     aW (kF (ix s_0 t2)) fun r4=>
     if r4 then
      some (.inr (.inr t2))
     else
      some (.inl (bj (t2+1)))
    else
     some (.inr (.inl ()))) 0) (fun(_:Unit)=>
   some (.inl ()))
  (fun(t3:Int)=>some (.inr t3))) (fun(_:Unit)=>
  some (-1))
 (fun(t1:Int)=>some t1)
theorem OK:(pz prog 175=true)=True:=eq_true (by kernel_rfl)
def ff:IC:=
 (af [mi 4 0] [0,1]
 (.join [] (af [mv 6 0,le 7 0 6,mi 8 0] [0,1,7,8]
 (.block 0 (.loop [(0,true),(1,false),(7,false),(8,false)] (af [bt 9 .lss 8 7] [0,1,7,8,9]
 (.seq (.cond (.t 9) .skip
 (.exit 0))
 (.seq (.block 1 (af [mv 10 8,mv 5 10] [0,1,5,7,8]
 (af [mv 11 1,mv 12 0,mv 13 5,ia 14 [.int .i64 0,.int .i64 0] 12 13,lm 15 2 14,i1 16 (.cu (.t 11) [(.t 15)])] [0,1,5,7,8,16]
 (.cond (.t 16) (af [mv 17 5,mv 4 17] [4]
 .ret)
 .skip))))
 (.bN none [bn 18 .add 8 1,mv 8 18] [0,1,7,8])))))))
 (af [mi 4 (-1)] [4]
 .ret)))
theorem jK:aE prog 249 19 [⟨4,true,none⟩] ff=true:=by kernel_rfl
theorem jP{s_0}{s:ab}{Q:List AV->ab->Prop}:ok (aV s_0) (fun r=>Q [.int .i64 r] s)->FN prog 249 [.sl false 2 s_0.length (flat s_0),.fn 175 [] []] s Q:=by
 intro h
 refine FO jK rfl rfl ?_
 revert h
 rw[ff,aV]
 repeat'(first
  |(with_reducible first|exact cW|refine bK ?_ ?_|refine de ?_|refine ak (fun _(h:kF (ix s_0 t2)=some _)=>qV h) (fun r4=>?_))
  |((with_reducible refine bF (fun(t2:Int)=>⟨[(0,.sl false 2 s_0.length (flat s_0)),(1,.fn 175 [] []),(7,.int .i64 (s_0.length:Int)),(8,.int .i64 t2)],[],s⟩) ?_ ?_);(first|exact rfl|simp -implicitDefEqProofs only[go_sem,seval,OK]);rintro J t2)
  |((with_reducible refine fh (fun(_:Unit)=>⟨[],[],s⟩) (fun J=>?_) ?_);rotate_left;rintro _)
  |simp -implicitDefEqProofs only[go_sem,seval,OK])
theorem fk{s_0}{s:ab}{r:Int}(h:aV s_0=some r):FE prog 249 [.sl false 2 s_0.length (flat s_0),.fn 175 [] []] s [.int .i64 r] s:=jP ⟨r,h,rfl,rfl⟩
def eL(x_0:Int):Option (Bool):=some (x_0 !=x_0)
def tF:IC:=
 (af [c6 2 (.bool false)] [0]
 (af [mv 3 0,mv 4 0,bt 5 .neq 3 4,mv 2 5] [2]
 .ret))
theorem DS:aE prog 201 6 [⟨2,true,none⟩] tF=true:=by kernel_rfl
theorem DG{x_0}{s:ab}{Q:List AV->ab->Prop}:ok (eL x_0) (fun r=>Q [.bool r] s)->FN prog 201 [.int .i64 x_0] s Q:=by
 intro h
 refine FO DS rfl rfl ?_
 revert h
 rw[tF,eL]
 repeat'(first
  |simp -implicitDefEqProofs only[go_sem,seval])
theorem tx{x_0}{s:ab}{r:Bool}(h:eL x_0=some r):FE prog 201 [.int .i64 x_0] s [.bool r] s:=DG ⟨r,h,rfl,rfl⟩
def bR(x_0:Int)(y_1:Int):Option (Int):=
 aW (eL x_0) fun r1=>
 aW (eL y_1) fun r2=>
 if r1 then
  if r2 then
   some 0
  else
   some (-1)
 else
  if r2 then
   some 1
  else
   if decide (x_0<y_1)then
    some (-1)
   else
    if decide (x_0>y_1)then
     some 1
    else
     some 0
def qi:IC:=
 (af [mi 4 0] [0,1]
 (af [mv 7 0,c1 8 201 7,mv 5 8] [0,1,5]
 (af [mv 9 1,c1 10 201 9,mv 6 10] [0,1,5,6]
 (.seq (af [mv 11 5] [0,1,6,11]
 (.cond (.t 11) (.seq (af [mv 12 6] [12]
 (.cond (.t 12) (af [mi 4 0] [4]
 .ret)
 .skip))
 (af [mi 4 (-1)] [4]
 .ret))
 .skip))
 (.seq (af [mv 13 6] [0,1,13]
 (.cond (.t 13) (af [mi 4 1] [4]
 .ret)
 .skip))
 (.seq (af [mv 14 0,mv 15 1,bt 16 .lss 14 15] [0,1,16]
 (.cond (.t 16) (af [mi 4 (-1)] [4]
 .ret)
 .skip))
 (.seq (af [mv 17 0,mv 18 1,bt 19 .gtr 17 18] [19]
 (.cond (.t 19) (af [mi 4 1] [4]
 .ret)
 .skip))
 (af [mi 4 0] [4]
 .ret))))))))
theorem AZ:aE prog 165 20 [⟨4,true,none⟩] qi=true:=by kernel_rfl
theorem Ae{x_0 y_1}{s:ab}{Q:List AV->ab->Prop}:ok (bR x_0 y_1) (fun r=>Q [.int .i64 r] s)->FN prog 165 [.int .i64 x_0,.int .i64 y_1] s Q:=by
 intro h
 refine FO AZ rfl rfl ?_
 revert h
 rw[qi,bR]
 repeat'(first
  |(with_reducible first|refine ak (fun _(h:eL x_0=some _)=>tx h) (fun r1=>?_)|refine ak (fun _(h:eL y_1=some _)=>tx h) (fun r2=>?_))
  |simp -implicitDefEqProofs only[go_sem,seval])
theorem iM{x_0 y_1}{s:ab}{r:Int}(h:bR x_0 y_1=some r):FE prog 165 [.int .i64 x_0,.int .i64 y_1] s [.int .i64 r] s:=Ae ⟨r,h,rfl,rfl⟩
def fQ(kG:(List Int)):Option (Int):=
 yp (
  jG (
   iter (fun(t3:Int)=>
    if decide (t3<(kG.length:Int))then
     aG (0<=t3/\t3<kG.length)<|
     if(ix kG t3)!=0 then
      some (.inr (.inr (ix kG t3)))
     else
      some (.inl (bj (t3+1)))
    else
     some (.inr (.inl ()))) 0) (fun(_:Unit)=>
   some (.inl ()))
  (fun(t5:Int)=>some (.inr t5))) (fun(_:Unit)=>
  some 0)
 (fun(t2:Int)=>some t2)
def Ax:IC:=
 (af [mi 2 0] [0]
 (af [mi 3 0] [0,3]
 (.join [(3,false)] (af [mt 6 0,le 7 0 6,mi 8 0] [3,6,7,8]
 (.block 0 (.loop [(3,false),(6,true),(7,false),(8,false)] (af [bt 9 .lss 8 7] [3,6,7,8,9]
 (.seq (.cond (.t 9) .skip
 (.exit 0))
 (.seq (.block 1 (af [ia 10 jV 6 8,ld 11 1 10,mv 5 11] [3,5,6,7,8]
 (af [mv 12 5,mv 13 3,bt 14 .neq 12 13] [3,5,6,7,8,14]
 (.cond (.t 14) (af [mv 15 5,mv 2 15] [2]
 .ret)
 .skip))))
 (.bN none [bn 16 .add 8 1,mv 8 16] [3,6,7,8])))))))
 (af [mv 17 3,mv 2 17] [2]
 .ret))))
theorem Ma:aE prog 164 18 [⟨2,true,none⟩] Ax=true:=by kernel_rfl
theorem LM{kG}{s:ab}{Q:List AV->ab->Prop}:ok (fQ kG) (fun r=>Q [.int .i64 r] s)->FN prog 164 [.sl false 1 kG.length (flat kG)] s Q:=by
 intro h
 refine FO Ma rfl rfl ?_
 revert h
 rw[Ax,fQ]
 repeat'(first
  |((with_reducible refine bF (fun(t3:Int)=>⟨[(3,.int .i64 0),(6,.sl false 1 kG.length (flat kG)),(7,.int .i64 (kG.length:Int)),(8,.int .i64 t3)],[],s⟩) ?_ ?_);(first|exact rfl|simp -implicitDefEqProofs only[go_sem,seval]);rintro J t3)
  |((with_reducible refine fh (fun(_:Unit)=>⟨[(3,.int .i64 0)],[],s⟩) (fun J=>?_) ?_);rotate_left;rintro _)
  |simp -implicitDefEqProofs only[go_sem,seval])
theorem Af{kG}{s:ab}{r:Int}(h:fQ kG=some r):FE prog 164 [.sl false 1 kG.length (flat kG)] s [.int .i64 r] s:=LM ⟨r,h,rfl,rfl⟩
def qx(a_0:aj)(b_1:aj):Option (Int):=
 aW (bR a_0.bW b_1.bW) fun r1=>
 aW (bR a_0.To b_1.To) fun r2=>
 aW (fQ [r1,r2]) fun r3=>
 some r3
def vt:IC:=
 (af [i1 2 (.dc 2 (.t 0)),i1 3 (.dc 2 (.t 1)),mi 4 0] [2,3]
 (.seq (.bN (some 13) [fa 5 0 2,ld 6 1 5,fa 7 0 3,ld 8 1 7,c2 9 165 6 8,fa 10 1 2,ld 11 1 10,fa 12 1 3,ld 13 1 12,c2 14 165 11 13,i1 15 (.bq 1 2 [.int .i64 0,.int .i64 0] [(0,1,(.t 9)),(1,1,(.t 14))]),c1 16 164 15,mv 4 16] [4])
 .ret))
theorem GI:aE prog 213 17 [⟨4,true,none⟩] vt=true:=by kernel_rfl
theorem HW{a_0 b_1}{s:ab}{Q:List AV->ab->Prop}:ok (qx a_0 b_1) (fun r=>Q [.int .i64 r] s)->FN prog 213 [.agg [.int .i64 a_0.bW,.int .i64 a_0.To],.agg [.int .i64 b_1.bW,.int .i64 b_1.To]] s Q:=by
 intro h
 refine FO GI rfl rfl ?_
 revert h
 rw[vt,qx]
 repeat'(first
  |(with_reducible first|refine b6 (fun _(h:bR a_0.bW b_1.bW=some _)=>iM h) (fun _=>rfl) (fun r1=>?_)|refine b6 (fun _(h:bR a_0.To b_1.To=some _)=>iM h) (fun _=>rfl) (fun r2=>?_)|refine b6 (fun _(h:fQ [r1,r2]=some _)=>(by refine jZ ?_ (Af h);simp -implicitDefEqProofs only[go_sem,seval])) (fun _=>rfl) (fun r3=>?_))
  |simp -implicitDefEqProofs only[go_sem,seval])
theorem HV{a_0 b_1}{s:ab}{r:Int}(h:qx a_0 b_1=some r):FE prog 213 [.agg [.int .i64 a_0.bW,.int .i64 a_0.To],.agg [.int .i64 b_1.bW,.int .i64 b_1.To]] s [.int .i64 r] s:=HW ⟨r,h,rfl,rfl⟩
def Dd:IC:=
 (af [c6 2 (.arr 0 0 0 0)] [0]
 (.seq (af [mv 3 0,i1 4 (.YE false (.t 3))] [0,4]
 (.cond (.t 4) (af [c6 2 (.arr 0 0 0 0)] [2]
 .ret)
 .skip))
 (af [i1 5 (.jR 2 0 [] []),mv 6 0,i1 7 (.eV 2 16 [.int .i64 0,.int .i64 0] (.t 5) (.t 6)),mv 2 7] [2]
 .ret)))
theorem OW:aE prog 203 8 [⟨2,true,none⟩] Dd=true:=by kernel_rfl
def BJ(l:List aj)(s:ab)(rs:List AV)(s':ab):Prop:=(∃b cap sp,rs=[.arr b 0 l.length cap]/\s b=none/\0<cap/\l.length<=cap/\(flat l++sp).length=cap*2/\views (flat l++sp)=flat l++sp/\s'=s.set b (.cells (flat l++sp)))\/(l=[]/\s'=s/\∃b,rs=[.arr b 0 0 0])
theorem Ad{o:Bool}{l:List aj}{s:ab}(hr:l.length*16<=room):FN prog 203 [.sl o 2 l.length (flat l)] s (BJ l s):=by
 refine FN.lr (FO OW rfl rfl ?_)
 generalize hQ:(fun rs s'=>∃s2,Sub s2 s'/\BJ l s rs s2)=Q
 have hq:∀rs s' s2,Sub s2 s'->BJ l s rs s2->Q rs s':=fun rs s' s2 h1 h2=>by rw[<-hQ];exact⟨s2,h1,h2⟩
 rw[Dd]
 simp -implicitDefEqProofs only[go_sem,seval]
 intro v hv
 refine⟨fun h=>hq _ _ s (Sub.refl s) (.inr ⟨List.eq_nil_of_length_eq_zero (hv (by simpa using h)),rfl,0,rfl⟩),fun _ b1 hb1=>?_⟩
 rw[gb,aC]
 by_cases hl:l=[]
 ·subst hl
  refine xG rfl rfl (Nat.le_refl 0) ?_
  simp -implicitDefEqProofs only[go_sem,seval]
  exact hq _ _ s ((Sub.refl s).set hb1) (.inr ⟨rfl,rfl,_,rfl⟩)
 ·have hn:0<l.length:=List.length_pos_iff.2 hl
  refine fS rfl rfl (by omega) (by rw[Nat.zero_add];exact hr) fun b2 cap hb2 gZ=>?_
  rw[Nat.zero_add]at gZ
  have hz:(List.replicate (cap -(0+l.length)) [.int .i64 0,.int .i64 0]).flatten=flat (List.replicate (cap -l.length) (aj.mk 0 0:aj)):=by rw[fX,Nat.zero_add];rfl
  rw[hz]
  simp -implicitDefEqProofs only[go_sem,seval,Nat.zero_add,List.nil_append]
  have acV:s b2=none:=((Sub.refl s).set hb1).none hb2
  refine hq _ _ _ (Sub.aiR ((Sub.refl s).set hb1)) (.inl ⟨b2,cap,_,rfl,acV,by omega,gZ,?_,?_,rfl⟩)
  ·rw[List.length_append,al,al,List.length_replicate]
   show l.length*2+(cap -l.length)*2=cap*2
   omega
  ·rw[tj,aC,aC]
theorem Ob{o:Bool}{l:List aj}{s:ab}(hr:l.length*16<=room):FE prog 203 [.sl o 2 l.length (flat l)] s [.us 2 l.length (flat l)] s:=
 FN.Yc (al l) ⟨rfl,rfl⟩ ((Ad hr).mono fun rs s' h=>by
  rcases h with⟨b,cap,sp,h1,h2,h3,h4,h5,h6,h7⟩|⟨h1,h2,h3⟩
  ·exact .inl ⟨b,cap,sp,h1,by rw[h7];exact bP,h3,h4,h5,h6,by rw[h7,j6 h2];exact Sub.refl s⟩
  ·subst h1;exact .inr ⟨rfl,rfl,by rw[h2];exact Sub.refl s,h3⟩)
def BX:IC:=
 (af [c6 4 (.arr 0 0 0 0)] [0,1]
 (af [mv 8 0,mv 9 1,c2 10 249 8 9,mv 5 10] [0,1,5]
 (.seq (af [mv 11 5,bn 12 .eql 11 (-1)] [0,1,5,12]
 (.cond (.t 12) (af [mv 13 0,mv 4 13] [4]
 .ret)
 .skip))
 (.seq (af [mv 14 5,bn 15 .add 14 1,mv 6 15] [0,1,5,6]
 (.block 0 (.loop [(0,false),(1,false),(5,false),(6,false)] (.seq (af [mv 16 6,mv 17 0,le 18 0 17,bt 19 .lss 16 18] [0,1,5,6,19]
 (.cond (.t 19) .skip
 (.exit 0)))
 (.seq (.block 1 (af [mv 22 0,mv 23 6,ia 24 [.int .i64 0,.int .i64 0] 22 23,lm 25 2 24,i1 7 (.aq [.int .i64 0,.int .i64 0]),st 2 7 25] [0,1,5,6,7]
 (af [mv 26 1,lm 27 2 7,i1 28 (.cu (.t 26) [(.t 27)]),no 29 28] [0,1,5,6,7,29]
 (.cond (.t 29) (af [mv 30 0,mv 31 5,lm 32 2 7,ia 33 [.int .i64 0,.int .i64 0] 30 31,st 2 33 32] [0,1,5,6]
 (.bN none [mv 34 5,bn 35 .add 34 1,mv 5 35] [0,1,5,6]))
 .skip))))
 (.bN none [mv 20 6,bn 21 .add 20 1,mv 6 21] [0,1,5,6]))))))
 (af [mv 36 0,mv 37 5,rj 38 2 36 37,i0 (.mo [.int .i64 0,.int .i64 0] (.t 38))] [0,5]
 (af [mv 39 0,mv 40 5,PV 41 2 39 40,mv 4 41] [4]
 .ret))))))
theorem KK:aE prog 211 42 [⟨4,true,none⟩] BX=true:=by kernel_rfl
end Go.AB
end
section
set_option maxRecDepth 4000
namespace Go.AB
open Go
open Go.Proofs.Tryz (prog)
theorem F4{T:Type}[aK T]{w:World}{R R':Nat->Nat}{b cap f:Nat}{l:List T}{vs:Array Value}(mono:∀a u,VR w R a u->VR w R' a u)(hv:∀u,VR w R (.arr b 0 l.length cap) u->VR w R' (.sl false 2 l.length (flat l)) u)
 (ha:kH w R [.arr b 0 l.length cap,.fn f [] []] vs):kH w R' [.sl false 2 l.length (flat l),.fn f [] []] vs:=by
 refine⟨ha.1,fun j a v hj hvs=>?_⟩
 match j,hj with
 |0,hj=>cases hj;exact hv v (ha.2 0 _ v rfl hvs)
 |1,hj=>cases hj;exact mono _ _ (ha.2 1 _ v rfl hvs)
theorem xN{b cap:Nat}{l:List aj}{sp:List AV}{r:Int}{s:ab}{Q:List AV->ab->Prop}(hs:s b=some (.cells (flat l++sp)))(hn:l.length<=cap)(h:aV l=some r)(hq:Q [.int .i64 r] s):
 FN prog 249 [.arr b 0 l.length cap,.fn 175 [] []] s Q:=by
 refine FN.borrow b (l.length*2) (tv:=[.sl false 2 l.length (flat l),.fn 175 [] []]) (FE.app (fk h) ⟨rfl,hq⟩) fun G w vs hst ha=>?_
 refine F4 (fun a u h=>h.mono (fun i=>?_) fun _ _ _=>rfl) (fun u hu=>zY hst (al l) hn (aC l) (fun _=>⟨sp,hs⟩) hu (by decide)) ha
 show G.R i<=if i=b/\b<w.heap.size then l.length*2 else G.R i
 split
 ·rename_i e
  obtain⟨q2,q3,_⟩:=hst b _ hs
  rw[e.1,q3];exact Nat.zero_le _
 ·exact Nat.le_refl _
theorem Vg{w:World}{R:Nat->Nat}{b off sz:Nat}{v:Value}(hv:VR w R (.arr b off 0 0) v):VR w R (.sl false sz 0 []) v:=by
 rcases VR.cd hv with e|⟨_,_,e⟩
 ·rw[e];exact .sle sz _ _
 ·rw[e];exact .slnil false sz
theorem I2{b off:Nat}{r:Int}{s:ab}{Q:List AV->ab->Prop}(h:aV []=some r)(hq:Q [.int .i64 r] s):
 FN prog 249 [.arr b off 0 0,.fn 175 [] []] s Q:=
 FN.args (FE.app (fk h) hq) fun G w vs _ ha=>⟨ha.1,fun j a v hj hv=>by
  match j,hj with
  |0,hj=>cases hj;exact Vg (ha.2 0 _ v rfl hv)
  |1,hj=>cases hj;exact ha.2 1 _ v rfl hv⟩
theorem Li{s:ab}{b:Nat}{o:SO}(h:s b=some o):s.set b o=s:=by
 funext c
 unfold ab.set
 split
 ·rename_i e;subst e;rw[h]
 ·rfl
def DA(x:aj):Bool:=(decide (x.bW<0))||(decide (x.To<=x.bW))
theorem aeq(x:aj)(s:ab):FE prog 175 [.agg [.int .i64 x.bW,.int .i64 x.To]] s [.bool (DA x)] s:=qV rfl
theorem QP{b cap i:Nat}{l:List aj}{sp:List AV}{s:ab}{Q:List AV->ab->Prop}(hs:s b=some (.cells (flat l++sp)))(hl:(flat l++sp).length=cap*2)(hn:l.length<=cap)(V9:(l.length:Int)<=9223372036854775807)
 (BT:aV l=some (i:Int))(hi:i<l.length)(hk:(l.take (i+1)).filter (fun x=>!DA x)=l.take i)
 (hq:∀sp',(flat (l.filter (fun x=>!DA x))++sp').length=cap*2->Q [.arr b 0 (l.filter (fun x=>!DA x)).length cap] (s.set b (.cells (flat (l.filter (fun x=>!DA x))++sp')))):
 FN prog 211 [.arr b 0 l.length cap,.fn 175 [] []] s Q:=by
 refine FO KK rfl rfl ?_
 rw[BX]
 simp -implicitDefEqProofs only[go_sem,seval]
 refine xN hs hn BT ?_
 simp -implicitDefEqProofs only[go_sem,seval]
 have e1:(((i:Int))==-1)=false:=by rw[beq_eq_false_iff_ne];omega
 rw[e1]
 refine⟨fun h=>(by cases h),fun _=>?_⟩
 have w1:bj ((i:Int)+1)=((i+1:Nat):Int):=by rw[aI (by omega) (by omega)];omega
 rw[w1]
 refine⟨fun U=>∃(a j:Nat)(l':List aj),U=⟨[(0,.arr b 0 l.length cap),(1,.fn 175 [] []),(5,.int .i64 (a:Int)),(6,.int .i64 (j:Int))],[],s.set b (.cells (flat l'++sp))⟩/\l'.length=l.length/\a<j/\j<=l.length/\l'.take a=(l.take j).filter (fun x=>!DA x)/\l'.drop j=l.drop j/\a=((l.take j).filter (fun x=>!DA x)).length,
  fun U=>match look U.e 6 with|.int _ j=>l.length -j.toNat|_=>0,?_,?_⟩
 ·refine⟨i,i+1,l,?_,rfl,by omega,by omega,hk.symm,rfl,?_⟩
  ·rw[Li hs];rfl
  ·rw[hk];simp;omega
 ·rintro U ⟨a,j,l',rfl,h1,h2,h3,h4,h5,h6⟩
  have hlen:(flat l'++sp).length=cap*2:=by rw[<-hl,List.length_append,List.length_append,al,al,h1]
  simp -implicitDefEqProofs only[go_sem,seval,bP]
  refine⟨fun hj=>⟨⟨by omega,of_decide_eq_true hj⟩,?_⟩,fun hj=>⟨by omega,?_⟩⟩
  ·have hj:=of_decide_eq_true hj
   have hj':j<l.length:=by omega
   have hx:∃x,l.drop j=x::l.drop (j+1)/\(l.take (j+1)).filter (fun x=>!DA x)=(l.take j).filter (fun x=>!DA x)++(if DA x then[]else[x]):=by
    refine⟨l[j],List.drop_eq_getElem_cons hj',?_⟩
    rw[List.take_succ_eq_append_getElem hj',List.filter_append]
    cases hg:DA l[j]<;>simp[hg]
   obtain⟨x,hx1,hx2⟩:=hx
   have hd:decide (j*2+2<=(flat l').length+sp.length)=true:=decide_eq_true (by rw[al,h1];show j*2+2<=l.length*2+_;omega)
   have hv:views (AB.sub (flat l'++sp) (j*2) 2)=[.int .i64 x.bW,.int .i64 x.To]:=by
    have:=gA l' sp 2 j 1 rfl (by omega)
    rw[Nat.one_mul]at this
    rw[this,h5,hx1];rfl
   rw[hd,hv]
   simp -implicitDefEqProofs only[go_sem,seval]
   refine⟨(by kernel_rfl),FE.app (aeq x _) ?_⟩
   have w2:bj ((j:Int)+1)=((j+1:Nat):Int):=by rw[aI (by omega) (by omega)];omega
   have w3:bj ((a:Int)+1)=((a+1:Nat):Int):=by rw[aI (by omega) (by omega)];omega
   simp -implicitDefEqProofs only[go_sem,seval,bP,w2,w3]
   have st:=gz l' [x] sp 2 a rfl (by simp;omega)
   have d1:l'.drop (j+1)=l.drop (j+1):=by rw[<-List.drop_drop,<-List.drop_drop,h5]
   have ht:(l'.take a++[x]).length=a+1:=by simp;omega
   refine⟨fun hg=>⟨⟨by omega,by omega⟩,by rw[al,h1];show a*2+2<=l.length*2+_;omega,⟨a+1,j+1,l'.take a++[x]++l'.drop (a+1),?_,?_,by omega,by omega,?_,?_,?_⟩,by omega⟩,
    fun hg=>⟨⟨a,j+1,l',rfl,h1,by omega,by omega,?_,d1,?_⟩,by omega⟩⟩
   ·rw[show setAt (flat l'++sp) (a*2) [AV.int .i64 x.bW,AV.int .i64 x.To]=_ from st];rfl
   ·rw[List.length_append,ht,List.length_drop];omega
   ·rw[List.take_append_of_le_length (by omega),List.take_of_length_le (by omega),hx2,h4]
    have:DA x=false:=by cases h:DA x<;>simp_all
    simp[this]
   ·rw[List.drop_append,List.drop_of_length_le (by omega),List.nil_append,ht,List.drop_drop,show a+1+(j+1 -(a+1))=j+1 by omega,d1]
   ·have:DA x=false:=by cases h:DA x<;>simp_all
    rw[hx2,List.length_append,<-h6,this];rfl
   ·have:DA x=true:=by cases h:DA x<;>simp_all
    rw[h4,hx2,this];simp
   ·have:DA x=true:=by cases h:DA x<;>simp_all
    rw[hx2,this,h6];simp
  ·have hj:=of_decide_eq_false hj
   obtain rfl:j=l.length:=by omega
   rw[fB (by omega)]
   have hsp:(flat l'++sp).length=cap*2:=by omega
   refine yO rfl bP (by
    rw[hsp]
    show 0+a*2+(l.length -a)*2<=cap*2
    omega) ?_
   have hz:(List.replicate (l.length -a) [AV.int .i64 0,AV.int .i64 0]).flatten=flat (List.replicate (l.length -a) (aj.mk 0 0)):=by rw[fX];rfl
   have st:=gz l' (List.replicate (l.length -a) (aj.mk 0 0)) sp 2 a rfl (by simp;omega)
   have e3:l'.drop (a+(List.replicate (l.length -a) (aj.mk 0 0)).length)=[]:=by rw[List.drop_eq_nil_iff];simp;omega
   rw[e3,List.append_nil,h4,List.take_length,bT,List.append_assoc]at st
   rw[List.take_length]at h6
   rw[Nat.zero_add,hz,st]
   generalize hF:l.filter (fun x=>!DA x)=F at hq h6
   have hq':=hq (flat (List.replicate (l.length -a) (aj.mk 0 0))++sp) (by
    rw[List.length_append,List.length_append,al,al,List.length_replicate,<-h6]
    rw[List.length_append,al,h1]at hsp
    have q1:aK.w aj=2:=rfl
    rw[q1]at hsp⊢
    omega)
   rw[<-h6]at hq'
   generalize flat (List.replicate (l.length -a) (aj.mk 0 0))++sp=sp' at hq'
   simp -implicitDefEqProofs only[go_sem,seval]
   exact⟨by omega,hq'⟩
theorem C4{b off n cap:Nat}{s:ab}{Q:List AV->ab->Prop}(hx:∀Q:List AV->ab->Prop,Q [.int .i64 (-1)] s->FN prog 249 [.arr b off n cap,.fn 175 [] []] s Q)(hq:Q [.arr b off n cap] s):
 FN prog 211 [.arr b off n cap,.fn 175 [] []] s Q:=by
 refine FO KK rfl rfl ?_
 rw[BX]
 simp -implicitDefEqProofs only[go_sem,seval]
 refine hx _ ?_
 simp -implicitDefEqProofs only[go_sem,seval]
 exact⟨fun _=>hq,fun h=>(by cases h)⟩
theorem KB(l:List aj)(hb:l.length<4611686018427387904):
 aV l=some (match l.findIdx? DA with|some i=>(i:Int)|none=>-1):=by
 unfold aV
 have step:∀k(hk:k<l.length),kF (ix l (k:Int))=some (DA l[k]):=fun k hk=>by
  have e:ix l (k:Int)=l[k]:=kK (i:=(k:Int)) hk
  rw[e];rfl
 cases h:l.findIdx? DA with
 |none=>
  rw[List.findIdx?_eq_none_iff]at h
  refine fN (z:=.inl ()) (fm (z:=.inl ()) (eP l.length hb (fun k hk=>?_) ?_) rfl) rfl
  ·refine aU (decide_eq_true (by omega)) (az ⟨by omega,by omega⟩ (aB (step k hk) ?_))
   rw[h _ (List.getElem_mem hk)];rfl
  ·exact aF (by simp) rfl
 |some i=>
  rw[List.findIdx?_eq_some_iff_getElem]at h
  obtain⟨hi,h1,h2⟩:=h
  refine fN (z:=.inr (i:Int)) (fm (z:=.inr (i:Int)) (eP i (by omega) (fun k hk=>?_) ?_) rfl) rfl
  ·refine aU (decide_eq_true (by omega)) (az ⟨by omega,by omega⟩ (aB (step k (by omega)) ?_))
   have:=h2 k hk
   rw[Bool.not_eq_true]at this
   rw[this];rfl
  ·refine aU (decide_eq_true (by omega)) (az ⟨by omega,by omega⟩ (aB (step i hi) ?_))
   rw[h1];rfl
def full(l:List aj):List aj:=l.filter fun x=>!DA x
theorem QR{l:List aj}{s:ab}{Q:List AV->ab->Prop}(hb:l.length*16<=room){b cap:Nat}{sp:List AV}(hs:s b=some (.cells (flat l++sp)))(hn:l.length<=cap)(hl:(flat l++sp).length=cap*2)
 (hq:∀sp',(flat (full l)++sp').length=cap*2->Q [.arr b 0 (full l).length cap] (s.set b (.cells (flat (full l)++sp')))):FN prog 211 [.arr b 0 l.length cap,.fn 175 [] []] s Q:=by
 have hb':l.length<4611686018427387904:=by unfold room at hb;omega
 have BT:=KB l hb'
 cases h:l.findIdx? DA with
 |none=>
  rw[h]at BT
  have eo:full l=l:=by
   rw[List.findIdx?_eq_none_iff]at h
   exact List.filter_eq_self.2 fun x hx=>by simp[h x hx]
  rw[eo]at hq
  refine C4 (fun Q' hq'=>xN hs hn BT hq') ?_
  have:=hq sp hl
  rwa[Li hs]at this
 |some i=>
  rw[h]at BT
  rw[List.findIdx?_eq_some_iff_getElem]at h
  obtain⟨hi,h1,h2⟩:=h
  refine QP hs hl hn (by omega) BT hi ?_ hq
  rw[List.take_succ_eq_append_getElem hi,List.filter_append]
  have e1:(l.take i).filter (fun x=>!DA x)=l.take i:=by
   refine List.filter_eq_self.2 fun x hx=>?_
   obtain⟨k,hk,rfl⟩:=List.getElem_of_mem hx
   rw[List.length_take]at hk
   rw[List.getElem_take]
   have:=h2 k (by omega)
   simpa using this
  rw[e1]
  simp[h1]
theorem QQ{b off:Nat}{s:ab}{Q:List AV->ab->Prop}(hq:Q [.arr b off 0 0] s):FN prog 211 [.arr b off 0 0,.fn 175 [] []] s Q:=C4 (fun Q' hq'=>I2 (r:=-1) (KB [] (by decide)) hq') hq
end Go.AB
end
section
namespace Go.AB
open Go
def Form(l:List aj):Prop:=(∀x∈l,0<=x.bW/\x.bW<x.To)/\l.Pairwise fun x y=>x.To<y.bW
theorem Form.tail{x:aj}{l:List aj}(h:Form (x::l)):Form l:=⟨fun y hy=>h.1 y (List.mem_cons_of_mem _ hy),(List.pairwise_cons.1 h.2).2⟩
def fH(gap:Int)(out:List aj)(x:aj):List aj:=match out.getLast? with
 |none=>[x]
 |some y=>if bj (x.bW -y.To)<=gap then out.dropLast++[⟨y.bW,max y.To x.To⟩]else out++[x]
def S2(gap:Int)(l:List aj):List aj:=l.foldl (fH gap) []
def leS(x y:aj):Prop:=x.bW<y.bW\/(x.bW=y.bW/\x.To<=y.To)
def Asc(l:List aj):Prop:=l.Pairwise leS
theorem Jx(gap:Int)(O:List aj)(y x:aj):fH gap (O++[y]) x=if bj (x.bW -y.To)<=gap then O++[⟨y.bW,max y.To x.To⟩]else O++[y]++[x]:=by
 unfold fH
 rw[List.getLast?_append]
 simp
end Go.AB
end
section
namespace Go.AB
open Go Go.Sort Go.Proofs Go.Shelf
def BK(a b:Int):Int:=if a<b then -1 else if b<a then 1 else 0
def Y0(x y:aj):Int:=if BK x.bW y.bW≠0 then BK x.bW y.bW else BK x.To y.To
theorem FI(a b:Int):bR a b=some (BK a b):=by
 have e:∀x:Int,eL x=some false:=fun x=>by unfold eL;simp
 unfold bR
 refine aB (e a) (aB (e b) (aF (by decide) (aF (by decide) ?_)))
 unfold BK
 by_cases h1:a<b
 ·rw[if_pos h1];exact aU (decide_eq_true h1) rfl
 ·rw[if_neg h1]
  refine aF (by simpa using h1) ?_
  by_cases h2:b<a
  ·rw[if_pos h2];exact aU (decide_eq_true h2) rfl
  ·rw[if_neg h2];exact aF (by simpa using h2) rfl
theorem TK(x y:aj):qx x y=some (Y0 x y):=by
 refine aB (FI _ _) (aB (FI _ _) (aB (a:=Y0 x y) ?_ rfl))
 generalize ha:BK x.bW y.bW=a
 generalize hb:BK x.To y.To=b
 unfold fQ Y0
 rw[ha,hb]
 by_cases h1:a=0
 ·rw[if_neg (by simpa using h1)]
  by_cases h2:b=0
  ·subst h1;subst h2
   refine fN (z:=.inl ()) (fm (z:=.inl ()) (eP 2 (by decide) (fun k hk=>?_) (aF (by simp) rfl)) rfl) rfl
   match k,hk with
   |0,_=>exact aU (by simp) (az (by simp) (aF (by simp[ix]) rfl))
   |1,_=>exact aU (by simp) (az (by simp) (aF (by simp[ix]) rfl))
  ·subst h1
   refine fN (z:=.inr b) (fm (z:=.inr b) (eP 1 (by decide) (fun k hk=>?_) ?_) rfl) rfl
   ·match k,hk with
    |0,_=>exact aU (by simp) (az (by simp) (aF (by simp[ix]) rfl))
   ·exact aU (by simp) (az (by simp) (aU (by simp[ix,h2]) (by simp[ix])))
 ·rw[if_pos h1]
  refine fN (z:=.inr a) (fm (z:=.inr a) (eP 0 (by decide) (fun k hk=>by omega) ?_) rfl) rfl
  exact aU (by simp) (az (by simp) (aU (by simp[ix,h1]) (by simp[ix])))
theorem SB{a b:Int}(h:a<b):BK a b=-1:=by unfold BK;rw[if_pos h]
theorem SA{a b:Int}(h:b<a):BK a b=1:=by unfold BK;rw[if_neg (by omega),if_pos h]
theorem Sz(a:Int):BK a a=0:=by unfold BK;rw[if_neg (by omega),if_neg (by omega)]
theorem MD(x y:aj):ltOf Y0 x y=decide (x.bW<y.bW\/(x.bW=y.bW/\x.To<y.To)):=by
 unfold ltOf
 congr 1
 rw[eq_iff_iff]
 unfold Y0
 rcases Int.lt_trichotomy x.bW y.bW with h|h|h
 ·rw[SB h];simp;exact .inl h
 ·rw[h,Sz]
  rcases Int.lt_trichotomy x.To y.To with k|k|k
  ·rw[SB k];simp;exact k
  ·rw[k,Sz];simp
  ·rw[SA k];simp;omega
 ·rw[SA h];simp;omega
theorem aiV:SWO (ltOf Y0)where
 irrefl x:=by rw[MD];simp
 trans x y z h1 h2:=by rw[MD]at*;simp at*;omega
 ntrans x y z h1 h2:=by rw[MD]at*;simp at*;omega
def Q2(x:aj):List Value:=[.int .i64 x.bW,.int .i64 x.To]
instance:Inhabited aj:=⟨⟨0,0⟩⟩
theorem ajc(w:World)(R:Nat->Nat)(x:aj)(j:Nat)(c:AV)(v:Value)(hc:(aK.cells x)[j]? =some c)(hv:(Q2 x)[j]? =some v):VR w R c v:=by
 match j,hc,hv with
 |0,hc,hv=>cases hc;cases hv;exact .int _ _
 |1,hc,hv=>cases hc;cases hv;exact .int _ _
theorem agL(w:World)(R:Nat->Nat)(x:aj)(vs:List Value)(hl:vs.length=2)(h:∀(j:Nat)(c:AV)(v:Value),(aK.cells x)[j]? =some c->vs[j]? =some v->VR w R c v):vs=Q2 x:=by
 match vs,hl with
 |[a,b],_=>
  have h0:=VR.ct (h 0 _ a rfl rfl)
  have h1:=VR.ct (h 1 _ b rfl rfl)
  rw[h0,h1];rfl
theorem adj(wR off size:Nat)(w:World):CmpLays Tryz.prog 213 #[] Q2 2 Y0 wR off size w:=
 Rq (fun x y=>HV (TK x y)) (fun w R x=>.agg _ _ (fun c hc=>by
  rcases List.mem_cons.1 hc with rfl|hc
  ·rfl
  ·rcases List.mem_cons.1 hc with rfl|hc
   ·rfl
   ·cases hc) rfl fun j c v hc hv=>ajc w R x j c v hc (by simpa using hv)) wR off size w
theorem R5(wR off cap:Nat)(d:Array aj)(w:World)(hH:HoldsK Q2 2 w wR off d)(hblk:wR<w.heap.size)(hsz:d.size<4611686018427387904):
 Calls Tryz.prog 212 #[.slice (some ⟨wR,off,none⟩) d.size cap,.func (.func 213) #[] #[]] w fun e w'=>e=.returned (.tuple #[])/\∃d' n os,PermIn 0 d.size d d'/\SortedIn (ltOf Y0) 0 d.size d'/\w'=sortWorldK Q2 2 w wR off n d' os:=by
 have eg:∀args w,(callFunc 213 args).run Tryz.prog w=.ok (.enter 213 args) w:=enters_of Tryz.func213 (by kernel_rfl) rfl
 exact AnyQ.slices_SortFunc Tryz.Ts 2 Tryz.isAgg188 Tryz.sizeOf188 Q2 (fun _=>rfl) (fun x v hv=>by simp[Q2]at hv;rcases hv with rfl|rfl<;>rfl) Y0 aiV 213 #[] wR off cap d w eg (adj wR off d.size w) hH hblk hsz
theorem Qc{b cap:Nat}{l:List aj}{sp:List AV}{s:ab}{Q:List AV->ab->Prop}(hs:s b=some (.cells (flat l++sp)))(hc:0<cap)(hb:l.length<4611686018427387904)
 (hq:∀l':List aj,l'.Perm l->Asc l'->Q [] (s.set b (.cells (flat l'++sp)))):FN Tryz.prog 212 [.arr b 0 l.length cap,.fn 213 [] []] s Q:=
 aaw rfl (fun _=>rfl) agL ajc R5 hs hc hb fun l' h1 h2=>hq l' h1 (h2.imp fun{x y} h=>by
  rw[MD]at h
  unfold leS
  simp at h
  omega)
end Go.AB
end
