/- A part of the proof: Sn, Vq0, Wk, Wx, Wy, Vf0, Vl0, Vd, Xa, Xb, Xc, Xd. -/
import Derived.Test.YtkeagffgdajggaaGreatT14
import Derived.Test.YtkeagffgdajggaaGreatT25
import Derived.Test.YtkeagffgdajggaaGreatT17
import Derived.Test.YtkeagffgdajggaaGreatT24
import Derived.Test.YtkeagffgdajggaaGreatT16
set_option linter.unusedSimpArgs false
set_option linter.unusedVariables false
section
set_option maxRecDepth 4000
namespace Go.AB
open Go
attribute[-go_sem] bU cN bw bT Nat.add_zero lf bC
def nH:IC:=
 (ae [mv 5 0,le 6 0 5,mi 7 0] [0,1,6,7]
 (.block 0 (.loop [(0,false),(1,false),(6,false),(7,false)] (ae [bt 8 .lss 7 6] [0,1,6,7,8]
 (.seq (.cond (.t 8) .skip
 (.exit 0))
 (.seq (.block 1 (ae [mv 9 7,mv 4 9] [0,1,4,6,7]
 (ae [mv 10 4,bn 11 .eql 10 0,mv 12 11,c9 13 0 12 false,c9 14 4 12 false,jx 15 12 false .sub 14 1,cS 16 12 false (.indexAddr [.int .u8 0] (.t 13) (.t 15)),lg 17 12 false 1 16,Qa 18 12 false 67 17,po 19 12 18,mv 20 19,c9 21 0 20 false,c9 22 4 20 false,jx 23 20 false .sub 22 1,cS 24 20 false (.indexAddr [.int .u8 0] (.t 21) (.t 23)),lg 25 20 false 1 24,Qa 26 20 false 68 25,po 27 20 26] [0,1,4,6,7,27]
 (.cond (.t 27) (.bD none [mv 28 1,mv 29 4,i1 30 (.b6 (.t 28) [(.t 29)])] [0,1,6,7])
 .skip))))
 (.bD none [bn 31 .add 7 1,mv 7 31] [0,1,6,7])))))))
def mK:List ay:=[]
theorem yS:aC Go.Proofs.Tryz.prog 30 32 mK nH=true:=by kernel_rfl
def qa:IC:=
 (ae [ld 7 1 1,mv 8 0,c2 9 32 7 8,iw 6 9,ex 10 6 0,ex 11 6 1,mv 4 10,mv 5 11] [0,2,4,5]
 (.seq (ae [mv 12 5,no 13 12] [0,2,4,13]
 (.cond (.t 13) .ret
 .skip))
 (.seq (.block 0 (.loop [(0,false),(2,false),(4,false)] (.seq (ae [ld 14 1 2,le 15 0 14,mv 16 4,bt 17 .lss 15 16] [0,2,4,17]
 (.cond (.t 17) .skip
 (.exit 0)))
 (.block 1 (.bD none [ld 18 1 2,i1 19 (.aY 1 1 lZ [(0,1,(.c (.int .i64 (-1))))]),i1 20 (.ee 1 8 lZ (.t 18) (.t 19)),st 1 2 20] [0,2,4])))))
 (.bD none [ld 21 1 2,mv 22 4,bn 23 .sub 22 1,mv 24 0,ia 25 lZ 21 23,st 1 25 24] []))))
def oP:List ay:=[]
theorem Bz:aC Go.Proofs.Tryz.prog 31 26 oP qa=true:=by kernel_rfl
def sg:IC:=
 (ae [i1 1 (.mP 1 (.t 0)),cV 2 (.sl true 1 0 [])] [1]
 (ae [i1 3 (.fJ [.arr 0 0 0 0])] [1,3]
 (ae [ld 4 1 1,i1 5 (.jr 31 [] [(.t 1),(.t 3)]),c2 6 30 4 5] [3]
 (ae [ld 7 1 3,i1 2 (.RP 1 true (.t 7))] [2]
 .ret))))
def qI:List ay:=[⟨2,false,none⟩]
theorem Du:aC Go.Proofs.Tryz.prog 9 8 qI sg=true:=by kernel_rfl
def si:IC:=
 (ae [i1 1 (.mP 1 (.t 0)),i1 2 (.aq gB),cV 3 (.bool false)] [1,2]
 (ae [i1 7 (.aY 1 7 [.int .u8 0,.int .u8 0,.int .u8 0,.int .u8 0,.int .u8 0,.int .u8 0,.int .u8 0] [(0,1,(.c (.int .u8 116))),(1,1,(.c (.int .u8 114))),(2,1,(.c (.int .u8 97))),(3,1,(.c (.int .u8 105))),(4,1,(.c (.int .u8 108))),(5,1,(.c (.int .u8 101))),(6,1,(.c (.int .u8 114)))]),i1 8 (.jg (.t 7)),i1 4 (.fJ [.sl true 1 0 []]),st 1 4 8] [1,2,4]
 (ae [i1 5 (.fJ oG)] [1,2,4,5]
 (ae [i1 6 (.fJ [.bool false]),i0 (.store 1 (.t 6) (.c (.bool false)))] [1,2,4,5,6]
 (ae [ld 9 1 1,i1 10 (.jr 34 [] [(.t 1),(.t 4),(.t 5),(.t 6)]),c2 11 30 9 10] [2,5,6]
 (.seq (.wY [2] 4 [lm 12 4 5,ld 13 1 6,st 4 2 12,mv 3 13] [2,3])
 .ret))))))
def qJ:List ay:=[⟨2,false,some (4,true)⟩,⟨3,true,none⟩]
theorem Dv:aC Go.Proofs.Tryz.prog 12 14 qJ si=true:=by kernel_rfl
def qb:IC:=
 (.seq (.seq (.bD (some 6) [ld 11 1 1,mv 12 0,px 13 1 11 12,ld 14 1 2,c2 15 35 13 14,no 16 15] [0,1,2,3,4,16])
 (.cond (.t 16) .ret
 .skip))
 (ae [ld 18 1 1,mv 19 0,ld 20 1 2,le 21 0 20,bt 22 .add 19 21,i1 23 (.call 36 [(.t 18),(.t 22),(.c (.bool true))]),iw 17 23,ex 24 17 0,ex 25 17 1,ex 26 17 2,i1 6 (.aq gB),st 4 6 24,mv 7 25,mv 8 26] [3,4,6,8]
 (ae [lm 28 4 6,i1 29 (.call 37 [(.t 28),(.c (.str [82,111,111,116]))]),iw 27 29,ex 30 27 0,ex 31 27 1,i1 9 (.aq gB),st 4 9 30,mv 10 31] [3,4,6,8,9]
 (ae [mv 32 8,bn 33 .eql 32 0,mv 34 33,fg 35 34 true 0 9,lg 36 34 true 1 35,jx 37 34 true .eql 36 8,pf 38 34 37] [3,4,6,38]
 (.cond (.t 38) (.bD none [lm 39 4 6,st 4 3 39,i0 (.store 1 (.t 4) (.c (.bool true)))] [])
 .skip)))))
def oQ:List ay:=[]
theorem BA:aC Go.Proofs.Tryz.prog 34 40 oQ qb=true:=by kernel_rfl
def beg(b:List UInt8)(k:Int):Option Bool:=bif k==0 then some true else aP (iD (ix b (k -1))) fun x=>bif x then some true else ll (ix b (k -1))
def Q9{S:Type}(step:S→Int→Option S)(b:List UInt8)(q:S×Int):Option ((S×Int)⊕S):=bif decide (q.2<b.length)then aK (0≤q.2∧q.2<2^62)<|aP (beg b q.2) fun x=>bif x then aP (step q.1 q.2) fun t=>some (.inl (t,q.2+1))else some (.inl (q.1,q.2+1))else some (.inr q.1)
theorem SX{S:Type}{step:S→Int→Option S}{b:List UInt8}{c:Nat}{caps:List AV}{R:S→ab→Prop}{st:S}{s:ab}{Q:List AV→ab→Prop}(hok:(ny Go.Proofs.Tryz.prog c=true)=True)(hv:bJ (fun x=>match x with|.c a=>a|_=>.undef) (caps.map .c)=some caps)
 (hstep:∀st k s st',step st k=some st'→R st s→FN Go.Proofs.Tryz.prog c ([.int .i64 k]++caps) s fun rs s'=>rs=[]∧R st' s')(h0:R st s)(hm:ok (iter (Q9 step b) (st,0)) fun st'=>∀s',R st' s'→Q [] s'):
 FN Go.Proofs.Tryz.prog 30 [.sl false 1 b.length (flat b),.fn c [] caps] s Q:=by
 refine FN.of (af mix) yS rfl (Nat.le_of_ble_eq_true rfl) ?_
 rw[nH,mK]
 simp -implicitDefEqProofs only[go_sem,seval]
 refine fN (fun(q:S×Int) τ=>∃s',R q.1 s'∧τ=(⟨[(0,.sl false 1 b.length (flat b)),(1,.fn c [] caps),(6,.int .i64 b.length),(7,.int .i64 q.2)],[],s'⟩:St)) ⟨s,h0,rfl⟩ ?_ hm
 rintro J ⟨st1,k⟩ τ ⟨s1,hR,rfl⟩ hb
 unfold Q9 at hb
 simp only at hb
 cases hlt:decide (k<(b.length:Int))with
 |false=>
  rw[hlt,cond_false,az]at hb
  simp only[lC]at hb
  simp -implicitDefEqProofs only[go_sem,seval,hlt,Bool.true_eq_false,Bool.false_eq_true,false_implies,true_implies,true_and,and_true]
  exact hb s1 hR
 |true=>
  rw[hlt,cond_true,df,dm]at hb
  obtain⟨⟨q1,q2⟩,x,hx,hb⟩:=hb
  have hk:k<(b.length:Int):=by simpa using hlt
  have w1:bz (k+1)=k+1:=aS (by omega) (by omega)
  have w2:bz (k -1)=k -1:=aS (by omega) (by omega)
  unfold beg at hx
  cases h0:(k==0)with
  |true=>
   rw[h0,cond_true]at hx
   injection hx with hx
   subst hx
   rw[cond_true,dm]at hb
   obtain⟨t,ht,hb⟩:=hb
   rw[az]at hb
   simp only[gb]at hb
   simp -implicitDefEqProofs only[go_sem,seval,hlt,h0,w1,w2,Bool.true_eq_false,Bool.false_eq_true,false_implies,true_implies,true_and,and_true,Bool.true_or]
   refine⟨by simpa using hok,FN.mono (hstep _ _ _ _ ht hR) fun rs s'⟨e,hR'⟩=>?_⟩
   subst e
   simp -implicitDefEqProofs only[go_sem,seval,w1]
   exact hb _ ⟨s',hR',rfl⟩
  |false=>
   rw[h0,cond_false]at hx
   have hx':ok (aP (iD (ix b (k -1))) fun x=>bif x then some true else ll (ix b (k -1))) fun z=>z=x:=⟨x,hx,rfl⟩
   rw[dm]at hx'
   obtain⟨x1,hx1,hx'⟩:=hx'
   have k1:0≤k -1∧k -1<(b.length:Int):=by
    have:k≠0:=by simpa using h0
    omega
   cases x1 with
   |true=>
    rw[cond_true,az]at hx'
    subst hx'
    rw[cond_true,dm]at hb
    obtain⟨t,ht,hb⟩:=hb
    rw[az]at hb
    simp only[gb]at hb
    simp -implicitDefEqProofs only[go_sem,seval,hlt,h0,w1,w2,Bool.true_eq_false,Bool.false_eq_true,false_implies,true_implies,true_and,and_true,Bool.true_or]
    refine⟨k1,FE.app (ke hx1) ?_⟩
    simp -implicitDefEqProofs only[go_sem,seval,w1,w2,Bool.true_eq_false,Bool.false_eq_true,false_implies,true_implies,true_and,and_true,Bool.true_or]
    refine⟨by simpa using hok,FN.mono (hstep _ _ _ _ ht hR) fun rs s'⟨e,hR'⟩=>?_⟩
    subst e
    simp -implicitDefEqProofs only[go_sem,seval,w1]
    exact hb _ ⟨s',hR',rfl⟩
   |false=>
    rw[cond_false]at hx'
    obtain⟨x2,hx2,rfl⟩:=hx'
    cases x2 with
    |true=>
     rw[cond_true,dm]at hb
     obtain⟨t,ht,hb⟩:=hb
     rw[az]at hb
     simp only[gb]at hb
     simp -implicitDefEqProofs only[go_sem,seval,hlt,h0,w1,w2,Bool.true_eq_false,Bool.false_eq_true,false_implies,true_implies,true_and,and_true,Bool.true_or]
     refine⟨k1,FE.app (ke hx1) ?_⟩
     simp -implicitDefEqProofs only[go_sem,seval,w1,w2,Bool.true_eq_false,Bool.false_eq_true,false_implies,true_implies,true_and,and_true,Bool.true_or]
     refine⟨k1,FE.app (ru hx2) ?_⟩
     simp -implicitDefEqProofs only[go_sem,seval,w1,w2,Bool.true_eq_false,Bool.false_eq_true,false_implies,true_implies,true_and,and_true,Bool.true_or]
     refine⟨by simpa using hok,FN.mono (hstep _ _ _ _ ht hR) fun rs s'⟨e,hR'⟩=>?_⟩
     subst e
     simp -implicitDefEqProofs only[go_sem,seval,w1]
     exact hb _ ⟨s',hR',rfl⟩
    |false=>
     rw[cond_false,az]at hb
     simp only[gb]at hb
     simp -implicitDefEqProofs only[go_sem,seval,hlt,h0,w1,w2,Bool.true_eq_false,Bool.false_eq_true,false_implies,true_implies,true_and,and_true,Bool.true_or]
     refine⟨k1,FE.app (ke hx1) ?_⟩
     simp -implicitDefEqProofs only[go_sem,seval,w1,w2,Bool.true_eq_false,Bool.false_eq_true,false_implies,true_implies,true_and,and_true,Bool.true_or]
     refine⟨k1,FE.app (ru hx2) ?_⟩
     simp -implicitDefEqProofs only[go_sem,seval,w1,w2,Bool.true_eq_false,Bool.false_eq_true,false_implies,true_implies,true_and,and_true,Bool.true_or]
     exact hb _ ⟨s1,hR,rfl⟩
def acr(n:Int)(out:List Int):Option (List Int⊕List Int):=bif decide ((out.length:Int)<n)then aK ((out.length+1)*8≤room)<|some (.inl (out++[-1]))else some (.inr out)
def Ec(b:List UInt8)(out:List Int)(at_:Int):Option (List Int):=aP (wC b at_) fun r=>bif !r.2 then some out else aP (iter (acr r.1) out) fun o=>aK (1≤r.1∧r.1≤o.length∧r.1<2^61)<|some (o.set (r.1 -1).toNat at_)
def Qs(s0:ab)(o:Nat)(out:List Int)(s:ab):Prop:=∃s1 r,s1 o=some (.cells [gH r out.length])∧Sub s0 s1∧fI s1 r out∧s=fC s1 r out
theorem Sm{s:ab}{r:cG}{ls:List Int}{B:Nat}{o o':SO}(h:fI s r ls)(hB:s B=some o):(fC s r ls).set B o'=fC (s.set B o') r ls∧fI (s.set B o') r ls:=by
 cases r with
 |none=>exact⟨rfl,h⟩
 |some x=>
  obtain⟨rb,cap,sp⟩:=x
  obtain⟨h1,h2⟩:=h
  have hne:B≠rb:=fun e=>by subst e;rw[h1]at hB;cases hB
  refine⟨set_comm hne,⟨by rw[ai hne.symm];exact h1,h2⟩⟩
theorem PQ{b:List UInt8}{s0 s:ab}{o bb:Nat}{out out':List Int}{k:Int}(h0:s0 o=none)(hb:s0 bb=some (.cells [.sl false 1 b.length (flat b)]))(hs:Ec b out k=some out')(h:Qs s0 o out s):
 FN Go.Proofs.Tryz.prog 31 [.int .i64 k,.ref bb 0,.ref o 0] s fun rs s'=>rs=[]∧Qs s0 o out' s':=by
 have hroom:room=140737488355328:=rfl
 obtain⟨s1,r,h1,h2,h3,rfl⟩:=h
 have hbb:fC s1 r out bb=some (.cells [.sl false 1 b.length (flat b)]):=il h3 (h2 _ _ hb)
 have hs':ok (Ec b out k) fun z=>z=out':=⟨out',hs,rfl⟩
 unfold Ec at hs'
 rw[dm]at hs'
 obtain⟨⟨n,is⟩,hh,hs'⟩:=hs'
 refine FN.of (af mix) Bz rfl (Nat.le_of_ble_eq_true rfl) ?_
 rw[qa,oP]
 generalize hst:fC s1 r out=st at*
 simp -implicitDefEqProofs only[go_sem,seval,hbb]
 refine FE.app (LX hh) ?_
 simp -implicitDefEqProofs only[go_sem,seval]
 refine⟨fun hi=>?_,fun hi=>?_⟩
 ·rw[hi,cond_true,az]at hs'
  subst hs'
  exact⟨s1,r,h1,h2,h3,hst.symm⟩
 ·rw[hi,cond_false,dm]at hs'
  obtain⟨o2,ho2,hs'⟩:=hs'
  rw[df,az]at hs'
  obtain⟨⟨m1,m2,m3⟩,rfl⟩:=hs'
  refine fN (kf:=fun z=>z=o2) (fun(q:List Int) τ=>∃s',Qs s0 o q s'∧τ=(⟨[(0,.int .i64 k),(2,.ref o 0),(4,.int .i64 n)],[],s'⟩:St)) ⟨st,⟨s1,r,h1,h2,h3,hst.symm⟩,rfl⟩ ?_ ⟨o2,ho2,rfl⟩
  rintro J q τ ⟨s',⟨s2,r2,g1,g2,g3,rfl⟩,rfl⟩ hq
  have hB:fC s2 r2 q o=some (.cells [gH r2 q.length]):=il g3 g1
  unfold acr at hq
  cases hlt:decide ((q.length:Int)<n)with
  |false=>
   rw[hlt,cond_false,az]at hq
   simp only[lC]at hq
   subst hq
   obtain⟨rb,cap,sp,rfl⟩:=LU g3 (by omega)
   have w1:bz (n -1)=n -1:=aS (by omega) (by omega)
   obtain⟨r1,_⟩:=UC q sp (n:=1) rfl (j:=n -1) (by omega) (by omega)
   have st1:=Wv q sp (n:=1) rfl k (j:=n -1) (by omega) (by omega)
   have st1:setAt (flat q++sp) ((n -1).toNat*1) [.int .i64 k]=_:=st1
   have hrb:fC s2 (some (rb,cap,sp)) q rb=some (.cells (flat q++sp)):=bd ..
   have hup:=Q8 (l':=q.set (n -1).toNat k) g3 (List.length_set ..)
   have hne:o≠rb:=fun e=>by subst e;rw[g3.1]at g1;cases g1
   generalize hst2:fC s2 (some (rb,cap,sp)) q=st2 at*
   generalize hcs:flat q++sp=cs at*
   have hB:st2 o=some (.cells [.arr rb 0 q.length cap]):=hB
   simp -implicitDefEqProofs only[go_sem,seval,hB,hlt,w1,hrb,Bool.true_eq_false,Bool.false_eq_true,false_implies,true_implies,true_and,and_true]
   rw[st1]
   refine⟨⟨by omega,by omega⟩,r1,s2,some (rb,cap,sp),by rw[List.length_set];exact g1,g2,hup,?_⟩
   rw[←hst2]
   exact set_set ..
  |true=>
   rw[hlt,cond_true,df,az]at hq
   simp only[gb]at hq
   obtain⟨hr,hq⟩:=hq
   generalize hst2:fC s2 r2 q=st2 at*
   simp -implicitDefEqProofs only[go_sem,seval,hB,hlt,Bool.true_eq_false,Bool.false_eq_true,false_implies,true_implies,true_and,and_true]
   rw[ft]
   have fin:=vY (σ:=?_) (d:=?_) (K:=?_) (by':=8) (s:=s2) (r:=r2) (l:=q) (z:=(0:Int)) (v:=(-1:Int)) (sz:=1) ?_ g3 rfl hr ?_
   ·exact fin
   ·exact hst2.symm
   ·intro s3 r3 f1 f2
    have hB2:s3 o=some (.cells [gH r2 q.length]):=f1 _ _ g1
    have hB3:fC s3 r3 (q++[(-1:Int)]) o=some (.cells [gH r2 q.length]):=il f2 hB2
    generalize hst3:fC s3 r3 (q++[(-1:Int)])=st3 at hB3
    simp -implicitDefEqProofs only[go_sem,seval,hB3]
    refine hq _ ⟨_,?_,rfl⟩
    obtain⟨q1,q2⟩:=Sm (o':=.cells [gH r3 (q.length+1)]) f2 hB2
    refine⟨s3.set o (.cells [gH r3 (q.length+1)]),r3,by rw[bd];simp,fun b' o' hb'=>?_,q2,?_⟩
    ·have hne:b'≠o:=fun e=>by subst e;rw[h0]at hb';cases hb'
     rw[ai hne]
     exact f1 _ _ (g2 _ _ hb')
    ·rw[←hst3];exact q1
def rI(b:List UInt8):Option (List Int):=iter (Q9 (Ec b) b) ([],0)
theorem DN{b_0:List UInt8}{s:ab}{r:List Int}(h:rI b_0=some r):FE Go.Proofs.Tryz.prog 9 [.sl false 1 b_0.length (flat b_0)] s [.sl false 1 r.length (flat r)] s:=by
 refine FN.jU (FN.of (af mix) Du rfl (Nat.le_of_ble_eq_true rfl) ?_)
 rw[sg,qI]
 simp -implicitDefEqProofs only[go_sem,seval]
 intro bb hbb o ho
 have n1:=ho
 rw[cM]at n1
 have hne:bb≠o:=n1.1.symm
 simp -implicitDefEqProofs only[go_sem,seval,ai hne]
 refine SX (R:=Qs (s.set bb (.cells [.sl false 1 b_0.length (flat b_0)])) o) (eq_true (by kernel_rfl)) rfl (fun st k s1 st' hs hR=>PQ ho bS hs hR) ⟨_,none,bS,(Sub.refl _).set ho,rfl,rfl⟩ ⟨r,h,fun s' hR=>?_⟩
 obtain⟨s1,r1,h1,h2,h3,rfl⟩:=hR
 have hB:=il h3 h1
 generalize hst:fC s1 r1 r=st at*
 simp -implicitDefEqProofs only[go_sem,seval,hB]
 have fz:=zI (σ:=?_) (d:=?_) (K:=?_) (sz:=1) (s:=s1) (r:=r1) (l:=r) ?_ h3 rfl ?_
 ·exact fz
 ·exact hst.symm
 ·simp -implicitDefEqProofs only[go_sem,seval]
  exact⟨s,fun b o hb=>h2 _ _ (((Sub.refl s).set hbb) b o hb),rfl⟩
def trW:List UInt8:=[116,114,97,105,108,101,114]
def GY(b:List UInt8)(st:aa×Bool)(k:Int):Option (aa×Bool):=
 aK (0≤k∧k≤b.length∧k<2^61)<|aP (iZ (part b k (b.length:Int)) trW) fun p=>bif !p then some st else
 aP (oF b (k+7) true) fun v=>aP (cQ v.1 ⟨[82,111,111,116]⟩) fun g=>bif(v.2.2==0)&&(g.1.Kind==8)then some (v.1,true)else some st
def Vf(s0:ab)(ov f:Nat)(st:aa×Bool)(s:ab):Prop:=s=(s0.set ov (.cells [.int .i64 st.1.Kind,.int .i64 st.1.N,.str st.1.S.b,.sl false 4 st.1.L.length (flat st.1.L)])).set f (.cells [.bool st.2])
theorem SB{b:List UInt8}{s0 s:ab}{ov f bb wb:Nat}{own:Bool}{st st':aa×Bool}{k:Int}(hv:s0 ov=none)(hf:s0 f=none)(hne:f≠ov)(hb:s0 bb=some (.cells [.sl false 1 b.length (flat b)]))(hw:s0 wb=some (.cells [.sl own 1 7 (flat trW)]))
 (hs:GY b st k=some st')(h:Vf s0 ov f st s):FN Go.Proofs.Tryz.prog 34 [.int .i64 k,.ref bb 0,.ref wb 0,.ref ov 0,.ref f 0] s fun rs s'=>rs=[]∧Vf s0 ov f st' s':=by
 have n1:bb≠ov:=fun e=>by subst e;rw[hv]at hb;cases hb
 have n2:bb≠f:=fun e=>by subst e;rw[hf]at hb;cases hb
 have n3:wb≠ov:=fun e=>by subst e;rw[hv]at hw;cases hw
 have n4:wb≠f:=fun e=>by subst e;rw[hf]at hw;cases hw
 have e1:s bb=some (.cells [.sl false 1 b.length (flat b)]):=by rw[h,ai n2,ai n1];exact hb
 have e2:s wb=some (.cells [.sl own 1 7 (flat trW)]):=by rw[h,ai n4,ai n3];exact hw
 have e3:s ov=some (.cells [.int .i64 st.1.Kind,.int .i64 st.1.N,.str st.1.S.b,.sl false 4 st.1.L.length (flat st.1.L)]):=by rw[h,ai hne.symm,bd]
 have e4:s f=some (.cells [.bool st.2]):=by rw[h,bd]
 have hs':ok (GY b st k) fun z=>z=st':=⟨st',hs,rfl⟩
 unfold GY at hs'
 rw[df,dm]at hs'
 obtain⟨⟨k1,k2,k3⟩,p,hp,hs'⟩:=hs'
 have fp:=wo 1 b k (b.length:Int) rfl
 refine FN.of (af mix) BA rfl (Nat.le_of_ble_eq_true rfl) ?_
 rw[qb,oQ]
 simp -implicitDefEqProofs only[go_sem,seval,e1,e2]
 refine⟨⟨k1,k2,Int.le_refl _⟩,[.bool p],rfl,yq (prefix_1:=trW) hp,?_⟩
 cases p with
 |false=>
  rw[Bool.not_false,cond_true,az]at hs'
  subst hs'
  simp -implicitDefEqProofs only[go_sem,seval,Bool.not_false,Bool.true_eq_false,Bool.false_eq_true,false_implies,true_implies,true_and,and_true]
  exact h
 |true=>
  rw[Bool.not_true,cond_false,dm]at hs'
  obtain⟨v,hv2,hs'⟩:=hs'
  rw[dm]at hs'
  obtain⟨g,hg,hs'⟩:=hs'
  have w1:bz (k+7)=k+7:=aS (by omega) (by omega)
  have e7:((7:Nat):Int)=7:=rfl
  simp -implicitDefEqProofs only[go_sem,seval,e1,e2,e7,w1,Bool.not_true,Bool.true_eq_false,Bool.false_eq_true,false_implies,true_implies,true_and,and_true]
  refine FE.app (uO hv2) ?_
  simp -implicitDefEqProofs only[go_sem,seval,Bool.true_eq_false,Bool.false_eq_true,false_implies,true_implies,true_and,and_true]
  refine FE.app (eH hg) ?_
  simp -implicitDefEqProofs only[go_sem,seval,Bool.true_eq_false,Bool.false_eq_true,false_implies,true_implies,true_and,and_true]
  cases c1:(v.2.2==0)with
  |false=>
   simp only[c1,Bool.false_and,cond_false,az]at hs'
   subst hs'
   simp -implicitDefEqProofs only[go_sem,seval,c1,Bool.true_eq_false,Bool.false_eq_true,false_implies,true_implies,true_and,and_true,Bool.false_and]
   first|exact h|trace_state
  |true=>
   cases c2:(g.1.Kind==8)with
   |false=>
    simp only[c1,c2,Bool.and_false,cond_false,az]at hs'
    subst hs'
    simp -implicitDefEqProofs only[go_sem,seval,c1,c2,Bool.true_eq_false,Bool.false_eq_true,false_implies,true_implies,true_and,and_true,Bool.false_and]
    first|exact h|trace_state
   |true=>
    simp only[c1,c2,Bool.and_true,cond_true,az]at hs'
    subst hs'
    have e5:∀cs,(s.set ov (.cells cs)) f=some (.cells [.bool st.2]):=fun cs=>by rw[ai hne];exact e4
    simp -implicitDefEqProofs only[go_sem,seval,c1,c2,e3,e5,Bool.true_eq_false,Bool.false_eq_true,false_implies,true_implies,true_and,and_true,Bool.false_and]
    unfold Vf at h⊢
    rw[h]
    funext x
    by_cases hx:x=f
    ·subst hx;rw[bd,bd]
    ·rw[ai hx,ai hx]
     by_cases hy:x=ov
     ·subst hy;rw[bd,bd]
     ·rw[ai hy,ai hy,ai hx,ai hy]
def rJ(b:List UInt8):Option (aa×Bool):=iter (Q9 (GY b) b) ((zV,false),0)
theorem DP{b_0:List UInt8}{s:ab}{r:aa×Bool}(h:rJ b_0=some r):FE Go.Proofs.Tryz.prog 12 [.sl false 1 b_0.length (flat b_0)] s
 [.agg [.int .i64 r.1.Kind,.int .i64 r.1.N,.str r.1.S.b,.sl false 4 r.1.L.length (flat r.1.L)],.bool r.2] s:=by
 refine FN.jU (FN.of (af mix) Dv rfl (Nat.le_of_ble_eq_true rfl) ?_)
 rw[si,qJ]
 simp -implicitDefEqProofs only[go_sem,seval]
 intro bb hbb wb hwb ov hov f hf
 have n1:=hwb
 rw[cM]at n1
 generalize hS1:s.set bb (.cells [.sl false 1 b_0.length (flat b_0)])=S1 at*
 have hb1:S1 bb=some (.cells [.sl false 1 b_0.length (flat b_0)]):=by rw[←hS1];exact bd ..
 have hw':S1 wb=none:=hwb
 generalize hS0:S1.set wb _=S0 at*
 have hw0:S0 wb=some (.cells [.sl false 1 7 (flat trW)]):=by rw[←hS0];exact bd ..
 have hb0:S0 bb=some (.cells [.sl false 1 b_0.length (flat b_0)]):=by rw[←hS0,ai (fun e=>by rw[e,hw']at hb1;cases hb1)];exact hb1
 have hsub:Sub s S0:=by
  rw[←hS0,←hS1]
  exact((Sub.refl s).set hbb).set (by rw[hS1];exact hw')
 rw[cM]at hf
 have eB:((S0.set ov (.cells [.int .i64 0,.int .i64 0,.str [],.sl false 4 0 []])).set f (.cells [.bool false])) bb=some (.cells [.sl false 1 b_0.length (flat b_0)]):=by
  rw[ai (fun e=>by rw[←e,hb0]at hf;cases hf.2),ai (fun e=>by rw[←e,hb0]at hov;cases hov)]
  exact hb0
 simp -implicitDefEqProofs only[go_sem,seval,eB]
 refine SX (R:=Vf S0 ov f) (step:=GY b_0) (st:=(zV,false)) (eq_true (by kernel_rfl)) rfl (fun st k s1 st' hs hR=>SB hov hf.2 hf.1 hb0 hw0 hs hR) rfl ⟨r,h,fun s' hR=>?_⟩
 have e3:s' ov=some (.cells [.int .i64 r.1.Kind,.int .i64 r.1.N,.str r.1.S.b,.sl false 4 r.1.L.length (flat r.1.L)]):=by rw[hR,ai hf.1.symm,bd]
 have e4:s' f=some (.cells [.bool r.2]):=by rw[hR,bd]
 have hs2:Sub s s':=by
  rw[hR]
  exact(hsub.set hov).set (by rw[cM];exact hf)
 simp -implicitDefEqProofs only[go_sem,seval,e3,e4]
 first|exact⟨s,hs2,rfl⟩|exact⟨rfl,s,hs2,rfl⟩|trace_state
end Go.AB
end
section
set_option maxRecDepth 4000
namespace Go.AB
open Go
attribute[-go_sem] bU cN bw bT Nat.add_zero lf bC
def qP(s_0:Hl):Option (cj×Int×Int):=
 aP (nq s_0) fun r1=>
 aP (pL s_0 0 r1) fun r2=>
 if !r2.2 then
  none
 else
  aP (rI r2.1) fun r3=>
  aP (rJ r2.1) fun r4=>
  if r4.2 then
   aP (cQ r4.1 (aA.mk [82,111,111,116])) fun r5=>
   if r5.1.N==0 then
    none
   else
    some ((cj.mk r3 r5.1.N),0,0)
  else
   none
def zZ:IC:=
 (ae [i1 2 (.aq [.sl true 1 0 [],.int .i64 0]),mi 3 0,mi 4 0] [0,2]
 (ae [mv 13 0,mv 14 0,c1 15 62 14,i1 16 (.call 61 [(.t 13),(.c (.int .i64 0)),(.t 15)]),iw 12 16,ex 17 12 0,ex 18 12 1,mt 5 17,mv 6 18] [2,5,6]
 (.seq (ae [mv 19 6,no 20 19] [2,5,20]
 (.cond (.t 20) .dead
 .skip))
 (ae [mv 24 5,c1 25 9 24,i1 26 (.build [.sl true 1 0 [],.int .i64 0] [(0,1,(.t 25))]),i1 7 (.aq [.sl true 1 0 [],.int .i64 0]),st 2 7 26] [2,5,7]
 (.seq (ae [mt 28 5,c1 29 12 28,iw 27 29,ex 30 27 0,ex 31 27 1,i1 8 (.aq gB),st 4 8 30,mv 9 31] [2,7,8,9]
 (ae [mv 32 9] [2,7,8,32]
 (.cond (.t 32) (ae [lm 34 4 8,i1 35 (.call 37 [(.t 34),(.c (.str [82,111,111,116]))]),iw 33 35,ex 36 33 0,ex 37 33 1,i1 10 (.aq gB),st 4 10 36,mv 11 37] [2,7,10]
 (.bD none [fa 38 1 10,ld 39 1 38,fa 40 1 7,st 1 40 39] [2,7]))
 .dead)))
 (.seq (ae [fa 46 1 7,ld 47 1 46,bn 48 .eql 47 0] [2,7,48]
 (.cond (.t 48) .dead
 .skip))
 (ae [lm 50 2 7,st 2 2 50,mi 3 0,mi 4 0] [2,3,4]
 .ret)))))))
def x4:List ay:=[⟨2,false,some (2,true)⟩,⟨3,true,none⟩,⟨4,true,none⟩]
theorem K9:aC Go.Proofs.Tryz.prog 28 51 x4 zZ=true:=by kernel_rfl
theorem LW{s_0}{s:ab}{Q:List AV→ab→Prop}(va0:gZ s s_0):ok (qP s_0) (fun r=>Q [.agg [.sl false 1 r.1.dw.length (flat r.1.dw),.int .i64 r.1.jW],.int .i64 r.2.1,.int .i64 r.2.2] s)→FN Go.Proofs.Tryz.prog 28 [.ref s_0.B 0] s Q:=by
 intro h
 refine FN.of (af mix) K9 rfl (Nat.le_of_ble_eq_true rfl) ?_
 revert h
 rw[zZ,x4,qP]
 repeat'(first
  |with_reducible exact cF
  |with_reducible refine bj ?_ ?_
  |with_reducible refine cJ ?_
  |with_reducible refine ak (fun _(h:nq s_0=some _)=>wZ (gZ.mono (by assumption) (by repeat'(first|exact Sub.refl _|refine Sub.set ?_ ?_|assumption|(simp[ab.set, *];done)))) h) (fun r1=>?_)
  |with_reducible refine ak (fun _(h:pL s_0 0 r1=some _)=>zr (gZ.mono (by assumption) (by repeat'(first|exact Sub.refl _|refine Sub.set ?_ ?_|assumption|(simp[ab.set, *];done)))) h) (fun r2=>?_)
  |with_reducible refine ak (fun _(h:rI r2.1=some _)=>DN h) (fun r3=>?_)
  |with_reducible refine ak (fun _(h:rJ r2.1=some _)=>DP h) (fun r4=>?_)
  |with_reducible refine ak (fun _(h:cQ r4.1 (aA.mk [82,111,111,116])=some _)=>eH h) (fun r5=>?_)
  |simp -implicitDefEqProofs only[go_sem,seval])
theorem LV{s_0}{s:ab}{r:cj×Int×Int}(va0:gZ s s_0)(h:qP s_0=some r):FE Go.Proofs.Tryz.prog 28 [.ref s_0.B 0] s [.agg [.sl false 1 r.1.dw.length (flat r.1.dw),.int .i64 r.1.jW],.int .i64 r.2.1,.int .i64 r.2.2] s:=LW va0 ⟨r,h,rfl,rfl⟩
end Go.AB
end
section
set_option maxRecDepth 4000
namespace Go.AB
open Go
attribute[-go_sem] bU cN bw bT Nat.add_zero lf bC
def Ag:IC:=
 (ae [i1 4 (.aq [.sl true 6 0 [],.int .i64 0,.int .i64 0,.str [],.sl true 4 0 []]),mi 5 0,mi 6 0] [0,1,4]
 (.B8 0 [(0,false),(1,false),(4,false),(7,false),(8,false)] (.bD none [cV 7 (.fn 90 [] []),cV 8 (.bool false)] [0,1,4,7,8])
 .skip
 .skip
 (ae [mv 14 7,mv 15 0,i1 16 (.b6 (.t 14) [(.t 15)]),iw 13 16,ex 17 13 0,ex 18 13 1,ex 19 13 2,i1 9 (.aq [.sl true 1 0 [],.int .i64 0]),st 2 9 17,mv 10 18,mv 11 19] [0,1,4,8,9,10,11]
 (.seq (ae [mv 20 11,bn 21 .neq 20 0] [0,1,4,8,9,10,11,21]
 (.cond (.t 21) (.seq (ae [mv 22 8,no 23 22,mv 24 23,c9 25 11 24 true,Qa 26 24 true 91 25,cS 27 24 true (.un .not (.t 26)),pf 28 24 27] [0,1,4,10,11,28]
 (.cond (.t 28) (ae [cV 7 (.fn 28 [] []),cV 8 (.bool true)] [0,1,4,7,8]
 (.goto 0))
 .skip))
 (ae [i1 29 (.build [.sl true 6 0 [],.int .i64 0,.int .i64 0,.str [],.sl true 4 0 []] []),mv 30 10,mv 31 11,st 5 4 29,mv 5 30,mv 6 31] [4,5,6]
 .ret))
 .skip))
 (ae [mv 33 0,lm 34 2 9,c2 35 92 33 34,mv 36 1,c2 37 17 35 36,iw 32 37,ex 38 32 0,ex 39 32 1,ex 40 32 2,i1 12 (.aq [.sl true 6 0 [],.int .i64 0,.int .i64 0,.str [],.sl true 4 0 []]),st 5 12 38,mv 10 39,mv 11 40] [0,1,4,8,10,11,12]
 (.seq (ae [mv 41 8,no 42 41,mv 43 42,c9 44 11 43 true,Qa 45 43 true 91 44,cS 46 43 true (.un .not (.t 45)),pf 47 43 46] [0,1,4,10,11,12,47]
 (.cond (.t 47) (ae [cV 7 (.fn 28 [] []),cV 8 (.bool true)] [0,1,4,7,8]
 (.goto 0))
 .skip))
 (ae [lm 48 5 12,mv 49 10,mv 50 11,st 5 4 48,mv 5 49,mv 6 50] [4,5,6]
 .ret)))))))
def yg:List ay:=[⟨4,false,some (5,true)⟩,⟨5,true,none⟩,⟨6,true,none⟩]
theorem Lj:aC Go.Proofs.Tryz.prog 45 51 yg Ag=true:=by kernel_rfl
theorem Qi:iter (fun last:Bool=>(bif last then some (.inr ())else some (.inl true):Option (Bool⊕Unit))) false=some ():=by
 have r:Kw (fun last:Bool=>(bif last then some (.inr ())else some (.inl true):Option (Bool⊕Unit))) 2 false ():=.step (t:=true) rfl (.stop rfl)
 exact r.iter (by decide)
theorem Mu{x:Hl}{s:ab}{p:Int}{t0 t:cj}{w0 e0 w1 w2:Int}{r:bF}{Q:List AV→ab→Prop}(va:gZ s x)(h1:nt x=some (t0,w0,e0))(he:(e0 !=0)=true)(hends:wH e0=some false)(h2:qP x=some (t,w1,0))
 (h3:∀F,wG (Zs F x.g t) p=some (r,w2,0))
 (hq:∀s',Sub s s'→Q [.agg [.sl false 6 r.an.length (flat r.an),.int .i64 r.ar.Kind,.int .i64 r.ar.N,.str r.ar.S.b,.sl false 4 r.ar.L.length (flat r.ar.L)],.int .i64 w2,.int .i64 0] s'):FN Go.Proofs.Tryz.prog 45 [.ref x.B 0,.int .i64 p] s Q:=by
 refine FN.of (af mix) Lj rfl (Nat.le_of_ble_eq_true rfl) ?_
 rw[Ag,yg]
 have k48:ny Go.Proofs.Tryz.prog 90=true:=by kernel_rfl
 have k50:ny Go.Proofs.Tryz.prog 28=true:=by kernel_rfl
 simp -implicitDefEqProofs only[go_sem,seval]
 refine NA (kf:=fun _=>True) (fun(last:Bool) τ=>τ=(⟨[(0,.ref x.B 0),(1,.int .i64 p),(4,.loc [.sl true 6 0 [],.int .i64 0,.int .i64 0,.str [],.sl true 4 0 []]),(7,.fn (bif last then 28 else 90) [] []),(8,.bool last)],[],s⟩:St)) rfl ?_ ⟨(),Qi,trivial⟩
 rintro J last τ rfl hb
 cases last with
 |false=>
  simp only[cond_false,az,gb]at hb
  simp -implicitDefEqProofs only[go_sem,seval,cond_false,k48,true_and]
  refine FE.app (Ho va h1) ?_
  simp -implicitDefEqProofs only[go_sem,seval,he,Bool.not_false,Bool.true_eq_false,Bool.false_eq_true,false_implies,true_implies,true_and,and_true]
  refine FE.app (Mw hends) ?_
  simp -implicitDefEqProofs only[go_sem,seval,he,Bool.not_false,Bool.and_true,Bool.true_eq_false,Bool.false_eq_true,false_implies,true_implies,true_and,and_true]
  first|exact hb _ rfl|trace_state
 |true=>
  simp -implicitDefEqProofs only[go_sem,seval,cond_true,k50,true_and]
  refine FE.app (LV va h2) ?_
  have e00:((0:Int)!=0)=false:=rfl
  simp -implicitDefEqProofs only[go_sem,seval,e00,Bool.not_true,Bool.true_eq_false,Bool.false_eq_true,false_implies,true_implies,true_and,and_true]
  refine M7 (t:=t) fun F s' hs' hN=>?_
  simp -implicitDefEqProofs only[go_sem,seval]
  obtain⟨⟨s0,hsrc⟩,ht⟩:=va
  refine FE.app (G8 (VT (hsrc.sub hs') ht hN) (h3 F)) ?_
  simp -implicitDefEqProofs only[go_sem,seval,Bool.not_true,Bool.false_and,Bool.true_eq_false,Bool.false_eq_true,false_implies,true_implies,true_and,and_true]
  first|exact hq s' hs'|trace_state
end Go.AB
end
section
set_option maxRecDepth 100000
namespace Go.AB
open Go
def OH:List UInt8:=[37,80,68,70,45,49,46,55,10,49,32,48,32,111,98,106,10,60,60,47,80,97,103,101,115,32,50,32,48,32,82,32,47,84,121,112,101,32,47,67,97,116,97,108,111,103,62,62,10,101,110,100,111,98,106,10,50,32,48,32,111,98,106,10,60,60,47,67,111,117,110,116,32,49,32,47,75,105,100,115,32,91,52,32,48,32,82,93,32,47,84,121,112,101,32,47,80,97,103,101,115,62,62,10,101,110,100,111,98,106,10,51,32,48,32,111,98,106,10,55,10,101,110,100,111,98,106,10,52,32,48,32,111,98,106,10,60,60,47,65,32,51,32,48,32,82,32,47,80,97,114,101,110,116,32,50,32,48,32,82,32,47,84,121,112,101,32,47,80,97,103,101,62,62,10,101,110,100,111,98,106,10,116,114,97,105,108,101,114,10,60,60,47,82,111,111,116,32,49,32,48,32,82,62,62,10]
def oA:ag:=⟨⟨7,0,⟨[]⟩,[⟨5,0,⟨[80,97,103,101,115]⟩,[]⟩,⟨8,2,⟨[]⟩,[]⟩,⟨5,0,⟨[84,121,112,101]⟩,[]⟩,⟨5,0,⟨[67,97,116,97,108,111,103]⟩,[]⟩]⟩,false,⟨[]⟩⟩
def oB:ag:=⟨⟨7,0,⟨[]⟩,[⟨5,0,⟨[67,111,117,110,116]⟩,[]⟩,⟨2,1,⟨[]⟩,[]⟩,⟨5,0,⟨[75,105,100,115]⟩,[]⟩,⟨6,0,⟨[]⟩,[⟨8,4,⟨[]⟩,[]⟩]⟩,⟨5,0,⟨[84,121,112,101]⟩,[]⟩,⟨5,0,⟨[80,97,103,101,115]⟩,[]⟩]⟩,false,⟨[]⟩⟩
def oC:ag:=⟨⟨2,7,⟨[]⟩,[]⟩,false,⟨[]⟩⟩
def oD:ag:=⟨⟨7,0,⟨[]⟩,[⟨5,0,⟨[65]⟩,[]⟩,⟨8,3,⟨[]⟩,[]⟩,⟨5,0,⟨[80,97,114,101,110,116]⟩,[]⟩,⟨8,2,⟨[]⟩,[]⟩,⟨5,0,⟨[84,121,112,101]⟩,[]⟩,⟨5,0,⟨[80,97,103,101]⟩,[]⟩]⟩,false,⟨[]⟩⟩
def D4:dV:=⟨[oA,oB,oC,oD],1⟩
def pA:bF:=⟨[⟨⟨7,0,⟨[]⟩,[⟨5,0,⟨[65]⟩,[]⟩,⟨8,2,⟨[]⟩,[]⟩,⟨5,0,⟨[84,121,112,101]⟩,[]⟩,⟨5,0,⟨[80,97,103,101]⟩,[]⟩]⟩,false,⟨[]⟩⟩,⟨⟨2,7,⟨[]⟩,[]⟩,false,⟨[]⟩⟩],⟨7,0,⟨[]⟩,[]⟩⟩
def S2:SG:=pJ (fun _=>none) 0 (pt UY 0 OH)
def RQ:kD:=⟨206,[⟨0,206⟩],S2⟩
def t4:cj:=⟨[9,56,111,128],1⟩
theorem Oz:oy=some D4:=by kernel_rfl
theorem UP:lE D4=some OH:=by kernel_rfl
theorem aas:np ⟨206,[],fun _=>none⟩ 0 OH=some (RQ,0):=by
 unfold np
 rw[if_neg (by decide),if_neg (by decide)]
 refine cg (a:=[⟨0,206⟩]) (by kernel_rfl) ?_
 refine cg (a:=S2) (by kernel_rfl) ?_
 exact cg (a:=[⟨0,206⟩]) (show D0 [] ⟨0,bz (0+(OH.length:Int))⟩=_ by kernel_rfl) rfl
theorem UR(F:Nat):wG (YG F D4) 0=some (pA,0,0):=by kernel_rfl
theorem aar:cQ (ix pA.an 0).V ⟨[65]⟩=some (⟨8,2,⟨[]⟩,[]⟩,true):=by kernel_rfl
theorem US:gx pA pA=some true:=by kernel_rfl
theorem UT:fS pA pA=some true:=by kernel_rfl
theorem UU:fS pA ⟨[],⟨0,0,⟨[]⟩,[]⟩⟩=some false:=by kernel_rfl
theorem UQ(B:Nat):nt ⟨B,RQ⟩=some (⟨[],0⟩,0,22):=by kernel_rfl
theorem WL(B:Nat):qP ⟨B,RQ⟩=some (t4,0,0):=by kernel_rfl
theorem WM(F:Nat):wG (Zs F RQ t4) 0=some (pA,0,0):=by kernel_rfl
end Go.AB
end
section
set_option maxRecDepth 4000
namespace Go.AB
open Go
attribute[-go_sem] bU cN bw bT Nat.add_zero lf bC
def tO:IC:=
 (ae [cV 0 (.bool false)] []
 (ae [i1 11 (.call 43 []),c1 12 18 11,i1 13 (.call 17 [(.t 12),(.c (.int .i64 0))]),iw 10 13,ex 14 10 0,ex 15 10 1,ex 16 10 2,i1 1 (.aq [.sl true 6 0 [],.int .i64 0,.int .i64 0,.str [],.sl true 4 0 []]),st 5 1 14,mv 2 15,mv 3 16] [1,2,3]
 (ae [i1 17 (.call 43 []),c1 18 44 17,mt 4 18] [1,2,3,4]
 (ae [mt 20 4,c1 21 29 20,i1 22 (.call 45 [(.t 21),(.c (.int .i64 0))]),iw 19 22,ex 23 19 0,ex 24 19 1,ex 25 19 2,i1 5 (.aq [.sl true 6 0 [],.int .i64 0,.int .i64 0,.str [],.sl true 4 0 []]),st 5 5 23,mv 6 24,mv 7 25] [1,2,3,5,6,7]
 (ae [i1 26 (.build gB []),i1 8 (.aq gB),st 4 8 26,cV 9 (.bool false)] [1,2,3,5,6,7,8,9]
 (.seq (ae [fa 27 0 1,ld 28 1 27,le 29 0 28,bn 30 .eql 29 2] [1,2,3,5,6,7,8,9,30]
 (.cond (.t 30) (.bD none [fa 32 0 1,ld 33 1 32,i1 34 (.indexAddr Sk (.t 33) (.c (.int .i64 0))),fa 35 0 34,lm 36 4 35,i1 37 (.call 37 [(.t 36),(.c (.str [65]))]),iw 31 37,ex 38 31 0,ex 39 31 1,st 4 8 38,mv 9 39] [1,2,3,5,6,7,8,9])
 .skip))
 (ae [mv 40 2,bn 41 .eql 40 0,mv 42 41,c9 43 3 42 true,jx 44 42 true .eql 43 0,pf 45 42 44,mv 46 45,c9 47 6 46 true,jx 48 46 true .eql 47 0,pf 49 46 48,mv 50 49,c9 51 7 50 true,jx 52 50 true .eql 51 0,pf 53 50 52,mv 54 53,c9 55 9 54 true,pf 56 54 55,mv 57 56,fg 58 57 true 0 8,lg 59 57 true 1 58,jx 60 57 true .eql 59 8,pf 61 57 60,mv 62 61,fg 63 62 true 1 8,lg 64 62 true 1 63,jx 65 62 true .eql 64 2,pf 66 62 65,mv 67 66,fg 68 67 true 0 1,lg 69 67 true 1 68,cS 70 67 true (.indexAddr Sk (.t 69) (.c (.int .i64 0))),fg 71 67 true 0 70,fg 72 67 true 3 71,lg 73 67 true 1 72,cS 74 67 true (.len 0 (.t 73)),jx 75 67 true .eql 74 4,pf 76 67 75,mv 77 76,fg 78 77 true 0 1,lg 79 77 true 1 78,cS 80 77 true (.indexAddr Sk (.t 79) (.c (.int .i64 1))),fg 81 77 true 0 80,fg 82 77 true 1 81,lg 83 77 true 1 82,jx 84 77 true .eql 83 7,pf 85 77 84,mv 86 85,cS 87 86 true (.load 5 true (.t 1)),cS 88 86 true (.load 5 true (.t 5)),Un 89 86 true 21 87 88,pf 90 86 89,mv 91 90,cS 92 91 true (.load 5 true (.t 1)),cS 93 91 true (.load 5 true (.t 5)),Un 94 91 true 25 92 93,pf 95 91 94,mv 96 95,cS 97 96 true (.load 5 true (.t 1)),cS 98 96 true (.build [.sl false 6 0 [],.int .i64 0,.int .i64 0,.str [],.sl false 4 0 []] []),Un 99 96 true 25 97 98,cS 100 96 true (.un .not (.t 99)),pf 101 96 100,mv 0 101] [0]
 .ret)))))))
def sB:List ay:=[⟨0,true,none⟩]
theorem Fo:aC Go.Proofs.Tryz.prog 16 102 sB tO=true:=by kernel_rfl
theorem UW{s:ab}{Q:List AV→ab→Prop}(hq:∀s',Sub s s'→Q [.bool true] s'):FN Go.Proofs.Tryz.prog 16 [] s Q:=by
 refine FN.of (af mix) Fo rfl (Nat.le_of_ble_eq_true rfl) ?_
 rw[tO,sB]
 simp -implicitDefEqProofs only[go_sem,start,aI,aV,ct,cX,cK,cT,Nat.reduceBEq,Nat.reduceAdd,Nat.reduceMul,Nat.reduceLeDiff,Nat.reduceEqDiff,Nat.reduceBNe,Nat.ble_eq,UInt8.reduceToNat,UInt32.reduceToNat]
 refine FE.app (uA Oz) ?_
 simp -implicitDefEqProofs only[go_sem,start,aI,aV,ct,cX,cK,cT,Nat.reduceBEq,Nat.reduceAdd,Nat.reduceMul,Nat.reduceLeDiff,Nat.reduceEqDiff,Nat.reduceBNe,Nat.ble_eq,UInt8.reduceToNat,UInt32.reduceToNat]
 refine DX (as1:=[.agg (DOC D4)]) (by rfl) (Pd (d:=D4) fun F db s1 hs1 hF hdb=>?_)
 simp -implicitDefEqProofs only[go_sem,start,aI,aV,ct,cX,cK,cT,Nat.reduceBEq,Nat.reduceAdd,Nat.reduceMul,Nat.reduceLeDiff,Nat.reduceEqDiff,Nat.reduceBNe,Nat.ble_eq,UInt8.reduceToNat,UInt32.reduceToNat]
 refine FE.app (G8 (f_0:=YG F D4) (Vr (by decide) hF hdb) (UR F)) ?_
 simp -implicitDefEqProofs only[go_sem,start,aI,aV,ct,cX,cK,cT,Nat.reduceBEq,Nat.reduceAdd,Nat.reduceMul,Nat.reduceLeDiff,Nat.reduceEqDiff,Nat.reduceBNe,Nat.ble_eq,UInt8.reduceToNat,UInt32.reduceToNat]
 refine FE.app (uA Oz) ?_
 simp -implicitDefEqProofs only[go_sem,start,aI,aV,ct,cX,cK,cT,Nat.reduceBEq,Nat.reduceAdd,Nat.reduceMul,Nat.reduceLeDiff,Nat.reduceEqDiff,Nat.reduceBNe,Nat.ble_eq,UInt8.reduceToNat,UInt32.reduceToNat]
 refine FE.app (BD UP) ?_
 simp -implicitDefEqProofs only[go_sem,start,aI,aV,ct,cX,cK,cT,Nat.reduceBEq,Nat.reduceAdd,Nat.reduceMul,Nat.reduceLeDiff,Nat.reduceEqDiff,Nat.reduceBNe,Nat.ble_eq,UInt8.reduceToNat,UInt32.reduceToNat]
 refine DX (as1:=[.sl false 1 OH.length (flat OH)]) (by rfl) (DS (l:=OH) (by decide) ⟨(RQ,0),aas,fun B s2 hsrc=>?_⟩)
 simp -implicitDefEqProofs only[go_sem,start,aI,aV,ct,cX,cK,cT,Nat.reduceBEq,Nat.reduceAdd,Nat.reduceMul,Nat.reduceLeDiff,Nat.reduceEqDiff,Nat.reduceBNe,Nat.ble_eq,UInt8.reduceToNat,UInt32.reduceToNat]
 refine Mu (x:=⟨B,RQ⟩) ⟨⟨s1,hsrc⟩,(by decide:(206:Int)≤2147483647)⟩ (UQ B) rfl (by kernel_rfl) (WL B) WM fun s3 hs3=>?_
 have hsub:Sub s s3:=fun b o hb=>hs3 b o (hsrc.1 b o (hs1 b o hb))
 have p2:(pA.an.length:Int)=2:=rfl
 have e2:((2:Int)==2)=true:=rfl
 have e0:((0:Int)==0)=true:=rfl
 simp -implicitDefEqProofs only[go_sem,start,aI,aV,ct,cX,cK,cT,Nat.reduceBEq,Nat.reduceAdd,Nat.reduceMul,Nat.reduceLeDiff,Nat.reduceEqDiff,Nat.reduceBNe,Nat.ble_eq,UInt8.reduceToNat,UInt32.reduceToNat,p2,e2,e0,Bool.true_eq_false,Bool.false_eq_true,false_implies,true_implies,true_and,and_true]
 have padO0:pad [.int .i64 0,.int .i64 0,.str [],.sl false 4 0 [],.bool false,.str []] (views (AB.sub (flat pA.an) 0 6))=[.int .i64 (ix pA.an 0).V.Kind,.int .i64 (ix pA.an 0).V.N,.str (ix pA.an 0).V.S.b,.sl false 4 (ix pA.an 0).V.L.length (flat (ix pA.an 0).V.L),.bool (ix pA.an 0).Stream,.str (ix pA.an 0).Data.b]:=uN pA.an 0
 have padO1:pad [.int .i64 0,.int .i64 0,.str [],.sl false 4 0 [],.bool false,.str []] (views (AB.sub (flat pA.an) 6 6))=[.int .i64 (ix pA.an 1).V.Kind,.int .i64 (ix pA.an 1).V.N,.str (ix pA.an 1).V.S.b,.sl false 4 (ix pA.an 1).V.L.length (flat (ix pA.an 1).V.L),.bool (ix pA.an 1).Stream,.str (ix pA.an 1).Data.b]:=uN pA.an 1
 have i2:(0:Int)≤0∧(0:Int)<2:=by decide
 have i3:(0:Int)≤1∧(1:Int)<2:=by decide
 have f1:(((ix pA.an 0).V.L.length:Int)==4)=true:=rfl
 have f2:((ix pA.an 1).V.N==7)=true:=rfl
 have f3:((8:Int)==8)=true:=rfl
 refine⟨i2,?_⟩
 simp -implicitDefEqProofs only[go_sem,start,aI,aV,ct,cX,cK,cT,Nat.reduceBEq,Nat.reduceAdd,Nat.reduceMul,Nat.reduceLeDiff,Nat.reduceEqDiff,Nat.reduceBNe,Nat.ble_eq,UInt8.reduceToNat,UInt32.reduceToNat,padO0]
 refine FE.app (eH aar) ?_
 simp -implicitDefEqProofs only[go_sem,start,aI,aV,ct,cX,cK,cT,Nat.reduceBEq,Nat.reduceAdd,Nat.reduceMul,Nat.reduceLeDiff,Nat.reduceEqDiff,Nat.reduceBNe,Nat.ble_eq,UInt8.reduceToNat,UInt32.reduceToNat,p2,padO0,padO1,e0,e2,f1,f2,f3,Bool.true_eq_false,Bool.false_eq_true,false_implies,true_implies,true_and,and_true,Bool.and_self]
 refine⟨i2,by decide,FE.app (pz US) ?_⟩
 simp -implicitDefEqProofs only[go_sem,start,aI,aV,ct,cX,cK,cT,Nat.reduceBEq,Nat.reduceAdd,Nat.reduceMul,Nat.reduceLeDiff,Nat.reduceEqDiff,Nat.reduceBNe,Nat.ble_eq,UInt8.reduceToNat,UInt32.reduceToNat,Bool.true_eq_false,Bool.false_eq_true,false_implies,true_implies,true_and,and_true,Bool.and_self]
 refine FE.app (nb UT) ?_
 simp -implicitDefEqProofs only[go_sem,start,aI,aV,ct,cX,cK,cT,Nat.reduceBEq,Nat.reduceAdd,Nat.reduceMul,Nat.reduceLeDiff,Nat.reduceEqDiff,Nat.reduceBNe,Nat.ble_eq,UInt8.reduceToNat,UInt32.reduceToNat,Bool.true_eq_false,Bool.false_eq_true,false_implies,true_implies,true_and,and_true,Bool.and_self]
 refine DX (as1:=[.agg [.sl false 6 pA.an.length (flat pA.an),.int .i64 pA.ar.Kind,.int .i64 pA.ar.N,.str pA.ar.S.b,.sl false 4 pA.ar.L.length (flat pA.ar.L)],.agg [.sl false 6 0 (flat ([]:List ag)),.int .i64 0,.int .i64 0,.str [],.sl false 4 0 (flat ([]:List aa))]]) (by rfl) (FE.app (nb (b_1:=⟨[],⟨0,0,⟨[]⟩,[]⟩⟩) UU) ?_)
 simp -implicitDefEqProofs only[go_sem,start,aI,aV,ct,cX,cK,cT,Nat.reduceBEq,Nat.reduceAdd,Nat.reduceMul,Nat.reduceLeDiff,Nat.reduceEqDiff,Nat.reduceBNe,Nat.ble_eq,UInt8.reduceToNat,UInt32.reduceToNat,Bool.true_eq_false,Bool.false_eq_true,false_implies,true_implies,true_and,and_true,Bool.and_self,Bool.not_false]
 exact hq s3 hsub
def jG:Option Bool:=some true
theorem uB{s:ab}{r:Bool}(h:jG=some r):FE Go.Proofs.Tryz.prog 16 [] s [.bool r] s:=by
 cases h
 exact FN.forget (UW fun s' hs=>⟨_,hs,rfl,rfl⟩)
end Go.AB
end
section
set_option maxRecDepth 4000
namespace Go.AB
open Go
attribute[-go_sem] bU cN bw bT Nat.add_zero lf bC
def dJ:Nat→aa→Option (Bool)
 |0,_=>none
 |fuel+1,v_0=>
  Hg (
   mO (
    iter (fun(k3:Int)=>
     if decide (k3<(v_0.L.length:Int))then
      aK (0≤k3∧k3<v_0.L.length)<|
      aP (dJ fuel (ix v_0.L k3)) fun r6=>
      if !r6 then
       some (.inr (.inr false))
      else
       some (.inl (bz (k3+1)))
     else
      some (.inr (.inl ()))) 0) (fun(_:Unit)=>
    some (.inl ()))
   (fun(t5:Bool)=>some (.inr t5))) (fun(_:Unit)=>
   some (decide ((v_0.S.b.length:Int)≤300)))
  (fun(t2:Bool)=>some t2)
def ua:IC:=
 (ae [i1 1 (.cW 4 (.t 0)),cV 2 (.bool false)] [1]
 (.join [(1,false)] (ae [mi 3 0] [1,3]
 (.block 0 (.loop [(1,false),(3,false)] (.seq (ae [mv 4 3,fa 5 3 1,ld 6 1 5,le 7 0 6,bt 8 .lss 4 7] [1,3,8]
 (.cond (.t 8) .skip
 (.exit 0)))
 (.seq (.block 1 (ae [fa 11 3 1,ld 12 1 11,mv 13 3,ia 14 oG 12 13,lm 15 4 14,c1 16 83 15,no 17 16] [1,3,17]
 (.cond (.t 17) (ae [cV 2 (.bool false)] [2]
 .ret)
 .skip)))
 (.bD none [mv 9 3,bn 10 .add 9 1,mv 3 10] [1,3]))))))
 (ae [fa 18 2 1,ld 19 1 18,le 20 1 19,bn 21 .leq 20 300,mv 2 21] [2]
 .ret)))
def sL:List ay:=[⟨2,true,none⟩]
theorem FB:aC Go.Proofs.Tryz.prog 83 22 sL ua=true:=by kernel_rfl
theorem Gt{fuel:Nat}:∀{v_0:aa}{s:ab}{Q:List AV→ab→Prop},ok (dJ fuel v_0) (fun r=>Q [.bool r] s)→FN Go.Proofs.Tryz.prog 83 [.agg [.int .i64 v_0.Kind,.int .i64 v_0.N,.str v_0.S.b,.sl false 4 v_0.L.length (flat v_0.L)]] s Q:=by
 induction fuel with
 |zero=>intros;rename_i h;rw[dJ]at h;exact absurd h (by rw[ok_none];exact fun h=>h)
 |succ fuel ih=>
 have ihfe:∀{v_0:aa}{s:ab}{r:Bool},dJ fuel v_0=some r→FE Go.Proofs.Tryz.prog 83 [.agg [.int .i64 v_0.Kind,.int .i64 v_0.N,.str v_0.S.b,.sl false 4 v_0.L.length (flat v_0.L)]] s [.bool r] s:=fun h=>ih ⟨_,h,rfl,rfl⟩
 intro v_0 s Q
 intro h
 refine FN.of (af mix) FB rfl (Nat.le_of_ble_eq_true rfl) ?_
 revert h
 rw[ua,sL,dJ]
 repeat'(first
  |with_reducible exact cF
  |with_reducible refine bj ?_ ?_
  |with_reducible refine cJ ?_
  |with_reducible refine ak (fun _(h:dJ fuel (ix v_0.L k3)=some _)=>ihfe h) (fun r6=>?_)
  |((with_reducible refine bf (fun(k3:Int)=>⟨[(1,.loc [.int .i64 v_0.Kind,.int .i64 v_0.N,.str v_0.S.b,.sl false 4 v_0.L.length (flat v_0.L)]),(3,.int .i64 k3)],[],s⟩) ?_ ?_);(first|exact rfl|simp -implicitDefEqProofs only[go_sem,seval]);rintro J k3)
  |((with_reducible refine dY (fun(_:Unit)=>⟨[(1,.loc [.int .i64 v_0.Kind,.int .i64 v_0.N,.str v_0.S.b,.sl false 4 v_0.L.length (flat v_0.L)])],[],s⟩) (fun J=>?_) ?_);rotate_left;rintro _)
  |simp -implicitDefEqProofs only[go_sem,seval])
theorem Gs{fuel:Nat}{v_0}{s:ab}{r:Bool}(h:dJ fuel v_0=some r):FE Go.Proofs.Tryz.prog 83 [.agg [.int .i64 v_0.Kind,.int .i64 v_0.N,.str v_0.S.b,.sl false 4 v_0.L.length (flat v_0.L)]] s [.bool r] s:=Gt ⟨r,h,rfl,rfl⟩
def dS:Nat→aa→Int→Option (Int)
 |0,_,_=>none
 |fuel+1,v_0,left_1=>
  jn (
   iter (fun((left2,k3):Int×Int)=>
    if(decide (k3<(v_0.L.length:Int)))&&(decide (left2≥0))then
     aK (0≤k3∧k3<v_0.L.length)<|
     aP (dS fuel (ix v_0.L k3) left2) fun r5=>
     some (.inl (r5,bz (k3+1)))
    else
     some (.inr left2)) (bz (left_1 -1),0)) fun(left1:Int)=>
  some left1
def zW:IC:=
 (ae [i1 2 (.cW 4 (.t 0)),mi 4 0] [1,2]
 (ae [mv 6 1,bn 7 .sub 6 1,mv 1 7] [1,2]
 (.join [(1,false)] (ae [mi 5 0] [1,2,5]
 (.block 0 (.loop [(1,false),(2,false),(5,false)] (.seq (ae [mv 8 5,fa 9 3 2,ld 10 1 9,le 11 0 10,bt 12 .lss 8 11,mv 13 12,c9 14 1 13 true,jx 15 13 true .geq 14 0,pf 16 13 15] [1,2,5,16]
 (.cond (.t 16) .skip
 (.exit 0)))
 (.seq (.block 1 (.bD none [fa 19 3 2,ld 20 1 19,mv 21 5,ia 22 oG 20 21,lm 23 4 22,mv 24 1,c2 25 22 23 24,mv 1 25] [1,2,5]))
 (.bD none [mv 17 5,bn 18 .add 17 1,mv 5 18] [1,2,5]))))))
 (ae [mv 26 1,mv 4 26] [4]
 .ret))))
def xX:List ay:=[⟨4,true,none⟩]
theorem K6:aC Go.Proofs.Tryz.prog 22 27 xX zW=true:=by kernel_rfl
theorem LK{fuel:Nat}:∀{v_0:aa}{left_1:Int}{s:ab}{Q:List AV→ab→Prop},ok (dS fuel v_0 left_1) (fun r=>Q [.int .i64 r] s)→FN Go.Proofs.Tryz.prog 22 [.agg [.int .i64 v_0.Kind,.int .i64 v_0.N,.str v_0.S.b,.sl false 4 v_0.L.length (flat v_0.L)],.int .i64 left_1] s Q:=by
 induction fuel with
 |zero=>intros;rename_i h;rw[dS]at h;exact absurd h (by rw[ok_none];exact fun h=>h)
 |succ fuel ih=>
 have ihfe:∀{v_0:aa}{left_1:Int}{s:ab}{r:Int},dS fuel v_0 left_1=some r→FE Go.Proofs.Tryz.prog 22 [.agg [.int .i64 v_0.Kind,.int .i64 v_0.N,.str v_0.S.b,.sl false 4 v_0.L.length (flat v_0.L)],.int .i64 left_1] s [.int .i64 r] s:=fun h=>ih ⟨_,h,rfl,rfl⟩
 intro v_0 left_1 s Q
 intro h
 refine FN.of (af mix) K6 rfl (Nat.le_of_ble_eq_true rfl) ?_
 revert h
 rw[zW,xX,dS]
 repeat'(first
  |with_reducible exact cF
  |with_reducible refine bj ?_ ?_
  |with_reducible refine cJ ?_
  |with_reducible refine ak (fun _(h:dS fuel (ix v_0.L k3) left2=some _)=>ihfe h) (fun r5=>?_)
  |((with_reducible refine bf (fun((left2,k3):Int×Int)=>⟨[(1,.int .i64 left2),(2,.loc [.int .i64 v_0.Kind,.int .i64 v_0.N,.str v_0.S.b,.sl false 4 v_0.L.length (flat v_0.L)]),(5,.int .i64 k3)],[],s⟩) ?_ ?_);(first|exact rfl|simp -implicitDefEqProofs only[go_sem,seval]);rintro J ⟨left2,k3⟩)
  |((with_reducible refine cH (fun(left1:Int)=>⟨[(1,.int .i64 left1)],[],s⟩) (fun J=>?_) ?_);rotate_left;rintro left1)
  |simp -implicitDefEqProofs only[go_sem,seval])
theorem Az{fuel:Nat}{v_0 left_1}{s:ab}{r:Int}(h:dS fuel v_0 left_1=some r):FE Go.Proofs.Tryz.prog 22 [.agg [.int .i64 v_0.Kind,.int .i64 v_0.N,.str v_0.S.b,.sl false 4 v_0.L.length (flat v_0.L)],.int .i64 left_1] s [.int .i64 r] s:=LK ⟨r,h,rfl,rfl⟩
def jL(o_0:ag)(data_1:Int):Option (Bool):=
 aP (dS iB o_0.V 300) fun r1=>
 aP (fY ((decide (r1≥0))&&(decide ((o_0.Data.b.length:Int)≤data_1))) false (dJ iB o_0.V)) fun r2=>
 some (((decide (r1≥0))&&(decide ((o_0.Data.b.length:Int)≤data_1)))&&r2)
def zX:IC:=
 (ae [i1 2 (.cW 6 (.t 0)),cV 4 (.bool false)] [1,2]
 (.seq (.bD (some 15) [fa 5 0 2,lm 6 4 5,i1 7 (.call 22 [(.t 6),(.c (.int .i64 300))]),bn 8 .geq 7 0,mv 9 8,fg 10 9 true 5 2,lg 11 9 true 1 10,cS 12 9 true (.len 1 (.t 11)),c9 13 1 9 true,s6 14 9 true .leq 12 13,pf 15 9 14,mv 16 15,fg 17 16 true 0 2,cS 18 16 true (.load 4 true (.t 17)),Qa 19 16 true 83 18,pf 20 16 19,mv 4 20] [4])
 .ret))
def xY:List ay:=[⟨4,true,none⟩]
theorem K7:aC Go.Proofs.Tryz.prog 42 21 xY zX=true:=by kernel_rfl
theorem LM{o_0 data_1}{s:ab}{Q:List AV→ab→Prop}:ok (jL o_0 data_1) (fun r=>Q [.bool r] s)→FN Go.Proofs.Tryz.prog 42 [.agg [.int .i64 o_0.V.Kind,.int .i64 o_0.V.N,.str o_0.V.S.b,.sl false 4 o_0.V.L.length (flat o_0.V.L),.bool o_0.Stream,.str o_0.Data.b],.int .i64 data_1] s Q:=by
 intro h
 refine FN.of (af mix) K7 rfl (Nat.le_of_ble_eq_true rfl) ?_
 revert h
 rw[zX,xY,jL]
 repeat'(first
  |with_reducible refine bH (fun _(h:dS iB o_0.V 300=some _)=>Az h) (fun _=>rfl) (fun r1=>?_)
  |with_reducible refine dg rfl (fun _(h:dJ iB o_0.V=some _)=>Gs h) (fun _=>rfl) (fun r2=>?_)
  |simp -implicitDefEqProofs only[go_sem,seval])
theorem LL{o_0 data_1}{s:ab}{r:Bool}(h:jL o_0 data_1=some r):FE Go.Proofs.Tryz.prog 42 [.agg [.int .i64 o_0.V.Kind,.int .i64 o_0.V.N,.str o_0.V.S.b,.sl false 4 o_0.V.L.length (flat o_0.V.L),.bool o_0.Stream,.str o_0.Data.b],.int .i64 data_1] s [.bool r] s:=LM ⟨r,h,rfl,rfl⟩
def lx(l_0:(List ag))(most_1:Int):Option (Bool):=
 if decide ((l_0.length:Int)>most_1)then
  some false
 else
  Hg (
   mO (
    iter (fun(k2:Int)=>
     if decide (k2<(l_0.length:Int))then
      aK (0≤k2∧k2<l_0.length)<|
      aP (jL (ix l_0 k2) 300) fun r4=>
      if !r4 then
       some (.inr (.inr false))
      else
       some (.inl (bz (k2+1)))
     else
      some (.inr (.inl ()))) 0) (fun(_:Unit)=>
    some (.inl ()))
   (fun(t3:Bool)=>some (.inr t3))) (fun(_:Unit)=>
   some true)
  (fun(t1:Bool)=>some t1)
def zY:IC:=
 (ae [cV 4 (.bool false)] [0,1]
 (.seq (ae [mv 6 0,le 7 0 6,mv 8 1,bt 9 .gtr 7 8] [0,9]
 (.cond (.t 9) (ae [cV 4 (.bool false)] [4]
 .ret)
 .skip))
 (.join [] (ae [mi 5 0] [0,5]
 (.block 0 (.loop [(0,true),(5,false)] (.seq (ae [mv 10 5,mv 11 0,le 12 0 11,bt 13 .lss 10 12] [0,5,13]
 (.cond (.t 13) .skip
 (.exit 0)))
 (.seq (.block 1 (ae [mv 16 0,mv 17 5,ia 18 Sk 16 17,lm 19 6 18,i1 20 (.call 42 [(.t 19),(.c (.int .i64 300))]),no 21 20] [0,5,21]
 (.cond (.t 21) (ae [cV 4 (.bool false)] [4]
 .ret)
 .skip)))
 (.bD none [mv 14 5,bn 15 .add 14 1,mv 5 15] [0,5]))))))
 (ae [cV 4 (.bool true)] [4]
 .ret))))
def xZ:List ay:=[⟨4,true,none⟩]
theorem K8:aC Go.Proofs.Tryz.prog 15 22 xZ zY=true:=by kernel_rfl
theorem LO{l_0 most_1}{s:ab}{Q:List AV→ab→Prop}:ok (lx l_0 most_1) (fun r=>Q [.bool r] s)→FN Go.Proofs.Tryz.prog 15 [.sl false 6 l_0.length (flat l_0),.int .i64 most_1] s Q:=by
 intro h
 refine FN.of (af mix) K8 rfl (Nat.le_of_ble_eq_true rfl) ?_
 revert h
 rw[zY,xZ,lx]
 repeat'(first
  |with_reducible exact cF
  |with_reducible refine bj ?_ ?_
  |with_reducible refine cJ ?_
  |with_reducible refine ak (fun _(h:jL (ix l_0 k2) 300=some _)=>LL h) (fun r4=>?_)
  |((with_reducible refine bf (fun(k2:Int)=>⟨[(0,.sl false 6 l_0.length (flat l_0)),(5,.int .i64 k2)],[],s⟩) ?_ ?_);(first|exact rfl|simp -implicitDefEqProofs only[go_sem,seval]);rintro J k2)
  |((with_reducible refine dY (fun(_:Unit)=>⟨[],[],s⟩) (fun J=>?_) ?_);rotate_left;rintro _)
  |simp -implicitDefEqProofs only[go_sem,seval])
theorem LN{l_0 most_1}{s:ab}{r:Bool}(h:lx l_0 most_1=some r):FE Go.Proofs.Tryz.prog 15 [.sl false 6 l_0.length (flat l_0),.int .i64 most_1] s [.bool r] s:=LO ⟨r,h,rfl,rfl⟩
end Go.AB
end
section
set_option maxRecDepth 4000
namespace Go.AB
open Go
attribute[-go_sem] bU cN bw bT Nat.add_zero lf bC
def gE(row_0:(List Int))(l_1:(List ag))(given_2:aa):Option (Bool):=
 aP (fY (!(decide ((row_0.length:Int)>60))) false (lx l_1 40)) fun r1=>
 aP (fY (!((decide ((row_0.length:Int)>60))||(!r1))) 0 (dS iB given_2 300)) fun r2=>
 if((decide ((row_0.length:Int)>60))||(!r1))||(decide (r2<0))then
  aP (jG) fun r3=>
  some r3
 else
  aP (eL row_0 l_1 given_2) fun r4=>
  aP (fR row_0 l_1 given_2) fun r5=>
  aP (gx r4 r5) fun r6=>
  aP (fY r6 false (fS r4 (bF.mk l_1 given_2))) fun r7=>
  aP (fY r6 false (gx r5 (bF.mk l_1 given_2))) fun r8=>
  aP (fY (r6&&((r7==r8)!=false)) false (fS r4 r5)) fun r9=>
  aP (fY ((r6&&((r7==r8)!=false))&&r9) false (jG)) fun r10=>
  some (((r6&&((r7==r8)!=false))&&r9)&&r10)
def nD:IC:=
 (ae [i1 5 (.cW 4 (.t 2)),cV 6 (.bool false)] [0,1,5]
 (.seq (.seq (.bD (some 11) [mv 10 0,le 11 0 10,bn 12 .gtr 11 60,mv 13 12,c9 14 1 13 false,cS 15 13 false (.call 15 [(.t 14),(.c (.int .i64 40))]),cS 16 13 false (.un .not (.t 15)),po 17 13 16,mv 18 17,cS 19 18 false (.load 4 true (.t 5)),cS 20 18 false (.call 22 [(.t 19),(.c (.int .i64 300))]),jx 21 18 false .lss 20 0,po 22 18 21] [0,1,5,22])
 (.cond (.t 22) (ae [i1 23 (.call 16 []),mv 6 23] [6]
 .ret)
 .skip))
 (.seq (.IP [7,8] [(0,0,mv 24 0),(0,1,mv 25 1),(0,2,lm 26 4 5),(1,4,mv 28 0),(1,5,mv 29 1),(1,6,lm 30 4 5),(1,8,i1 7 (.aq [.sl true 6 0 [],.int .i64 0,.int .i64 0,.str [],.sl true 4 0 []])),(1,9,i1 8 (.aq [.sl true 6 0 [],.int .i64 0,.int .i64 0,.str [],.sl true 4 0 []])),(2,3,c3 27 23 24 25 26),(2,7,c3 31 24 28 29 30),(0,10,st 5 7 27),(0,11,st 5 8 31)] [1,5,7,8])
 (ae [mt 32 1,lm 33 4 5,i1 34 (.build [.sl true 6 0 [],.int .i64 0,.int .i64 0,.str [],.sl true 4 0 []] [(0,1,(.t 32)),(1,4,(.t 33))]),i1 9 (.aq [.sl true 6 0 [],.int .i64 0,.int .i64 0,.str [],.sl true 4 0 []]),st 5 9 34] [7,8,9]
 (.seq (.bD (some 21) [lm 35 5 7,lm 36 5 8,c2 37 21 35 36,mv 38 37,cS 39 38 true (.load 5 true (.t 7)),cS 40 38 true (.load 5 true (.t 9)),Un 41 38 true 25 39 40,cS 42 38 true (.load 5 true (.t 8)),cS 43 38 true (.load 5 true (.t 9)),Un 44 38 true 21 42 43,cS 45 38 true (.Pa false (.t 41) (.t 44)),pf 46 38 45,mv 47 46,cS 48 47 true (.load 5 true (.t 7)),cS 49 47 true (.load 5 true (.t 8)),Un 50 47 true 25 48 49,pf 51 47 50,mv 52 51,cS 53 52 true (.call 16 []),pf 54 52 53,mv 6 54] [6])
 .ret)))))
def mG:List ay:=[⟨6,true,none⟩]
theorem yO:aC Go.Proofs.Tryz.prog 6 55 mG nD=true:=by kernel_rfl
theorem yY{row_0 l_1 given_2}{s:ab}{Q:List AV→ab→Prop}:ok (gE row_0 l_1 given_2) (fun r=>Q [.bool r] s)→FN Go.Proofs.Tryz.prog 6 [.sl false 1 row_0.length (flat row_0),.sl false 6 l_1.length (flat l_1),.agg [.int .i64 given_2.Kind,.int .i64 given_2.N,.str given_2.S.b,.sl false 4 given_2.L.length (flat given_2.L)]] s Q:=by
 intro h
 refine FN.of (af mix) yO rfl (Nat.le_of_ble_eq_true rfl) ?_
 revert h
 rw[nD,mG,gE]
 repeat'(first
  |with_reducible refine bj ?_ ?_
  |with_reducible refine cJ ?_
  |with_reducible refine dg rfl (fun _(h:lx l_1 40=some _)=>LN h) (fun _=>rfl) (fun r1=>?_)
  |with_reducible refine dg rfl (fun _(h:dS iB given_2 300=some _)=>Az h) (fun _=>rfl) (fun r2=>?_)
  |((fail_if_success (have _x:=r3));with_reducible refine ak (fun _(h:jG=some _)=>uB h) (fun r3=>?_))
  |with_reducible refine ak (fun _(h:eL row_0 l_1 given_2=some _)=>qX h) (fun r4=>?_)
  |with_reducible refine ak (fun _(h:fR row_0 l_1 given_2=some _)=>AA h) (fun r5=>?_)
  |with_reducible refine bH (fun _(h:gx r4 r5=some _)=>pz h) (fun _=>rfl) (fun r6=>?_)
  |with_reducible refine dg rfl (fun _(h:fS r4 (bF.mk l_1 given_2)=some _)=>nb h) (fun _=>rfl) (fun r7=>?_)
  |with_reducible refine dg rfl (fun _(h:gx r5 (bF.mk l_1 given_2)=some _)=>pz h) (fun _=>rfl) (fun r8=>?_)
  |with_reducible refine dg rfl (fun _(h:fS r4 r5=some _)=>nb h) (fun _=>rfl) (fun r9=>?_)
  |((fail_if_success (have _x:=r10));with_reducible refine dg rfl (fun _(h:jG=some _)=>uB h) (fun _=>rfl) (fun r10=>?_))
  |simp -implicitDefEqProofs only[go_sem,seval])
theorem yX{row_0 l_1 given_2}{s:ab}{r:Bool}(h:gE row_0 l_1 given_2=some r):FE Go.Proofs.Tryz.prog 6 [.sl false 1 row_0.length (flat row_0),.sl false 6 l_1.length (flat l_1),.agg [.int .i64 given_2.Kind,.int .i64 given_2.N,.str given_2.S.b,.sl false 4 given_2.L.length (flat given_2.L)]] s [.bool r] s:=yY ⟨r,h,rfl,rfl⟩
end Go.AB
end
section
set_option maxRecDepth 4000
namespace Go.AB
open Go
attribute[-go_sem] bU cN bw bT Nat.add_zero lf bC
end Go.AB
end
section
set_option linter.unusedSimpArgs false
namespace Go.AB
open Go
theorem DW(v:aa)(key:aA)(h:(v.L.length:Int)≤4611686018427387904):∃r,dT v key=some r∧-1≤r∧r<v.L.length:=by
 by_cases hk:(v.Kind !=7)=true
 ·refine⟨-1,?_,by omega,by omega⟩
  unfold dT;rw[if_pos hk]
 ·have hit:∃o:Unit⊕Int,iter (fun(i2:Int)=>
   if decide (i2<(v.L.length:Int))then
    aK (0≤i2∧i2<v.L.length)<|
    aK ((((ix v.L i2).Kind)==5)=true→0≤i2∧i2<v.L.length)<|
    if(((ix v.L i2).Kind)==5)&&(((ix v.L i2).S).b==key.b)then
     some (.inr (.inr i2))
    else
     some (.inl (bz (i2+2)))
   else
    some (.inr (.inl ()))) 0=some o∧(∀r,o=.inr r→0≤r∧r<v.L.length):=by
   refine uw (fun i=>0≤i) (fun i=>((v.L.length:Int) -i).toNat) _ (Int.le_refl 0) (by omega) fun i hi=>?_
   by_cases hl:i<(v.L.length:Int)
   ·rw[if_pos (by simpa using hl),qm ⟨hi,hl⟩,qm (fun _=>⟨hi,hl⟩)]
    split
    ·refine⟨_,rfl,?_⟩
     rintro r e;injection e with e;subst e;exact⟨hi,hl⟩
    ·refine⟨_,rfl,?_⟩
     show 0≤bz (i+2)∧((v.L.length:Int) -bz (i+2)).toNat<((v.L.length:Int) -i).toNat
     rw[aS (by omega) (by omega)]
     exact⟨by omega,by omega⟩
   ·rw[if_neg (by simpa using hl)]
    exact⟨_,rfl,fun r e=>by cases e⟩
  obtain⟨o,h1,h2⟩:=hit
  unfold dT
  rw[if_neg hk,h1]
  cases o with
  |inl u=>exact⟨-1,rfl,by omega,by omega⟩
  |inr r=>exact⟨r,rfl,by have:=h2 r rfl;omega,by have:=h2 r rfl;omega⟩
theorem xN(v:aa)(key:aA):jz v key=dT v key:=by
 unfold jz dT
 by_cases hk:(v.Kind==7)=true
 ·have hk':(v.Kind !=7)=false:=by rw[bne,hk];rfl
  simp only[hk,hk',Bool.true_and,Bool.false_eq_true,if_false]
 ·have hk2:(v.Kind==7)=false:=by simpa using hk
  have hk':(v.Kind !=7)=true:=by rw[bne,hk2];rfl
  rw[iter_eq (o:=.inl ()) (fun _=>True) (fun _=>0) trivial (by decide) fun i _=>.inr (by simp only[hk2,Bool.false_and,Bool.false_eq_true,if_false])]
  simp only[hk',if_true]
  rfl
end Go.AB
end
section
set_option linter.unusedSimpArgs false
namespace Go.AB
open Go
def W:Nat→aa→Prop
 |0,_=>False
 |n+1,v=>v.L.length≤n∧∀x∈v.L,W n x
theorem OK:∀(n m:Nat)(v:aa),n≤m→W n v→W m v
 |0,_,_,_,h=>h.elim
 |n+1,0,_,hm,_=>by omega
 |n+1,m+1,v,hm,h=>⟨by have:=h.1;omega,fun x hx=>OK n m x (by omega) (h.2 x hx)⟩
def He:Nat→aa→Nat
 |0,_=>0
 |n+1,v=>1+(v.L.map (He n)).sum
theorem Tf:∀(n m:Nat)(v:aa),n≤m→W n v→He m v=He n v
 |0,_,_,_,h=>h.elim
 |n+1,0,_,hm,_=>by omega
 |n+1,m+1,v,hm,h=>by
  show 1+(v.L.map (He m)).sum=1+(v.L.map (He n)).sum
  rw[List.map_congr_left fun x hx=>Tf n m x (by omega) (h.2 x hx)]
theorem few(fuel:Nat):∀(v:aa)(left:Int),0≤left→left<fuel→left≤4611686018427387904→∃r,dS fuel v left=some r∧-1≤r∧r<left∧(0≤r→W left.toNat v∧(He left.toNat v:Int)≤left -r):=by
 induction fuel with
 |zero=>intro v left h0 h1;omega
 |succ fuel ih=>
  intro v left h0 h1 h2
  rw[dS]
  have hit:∃o:Int,iter (fun((left2,k3):Int×Int)=>
   if(decide (k3<(v.L.length:Int)))&&(decide (left2≥0))then
    aK (0≤k3∧k3<v.L.length)<|
    aP (dS fuel (ix v.L k3) left2) fun r5=>
    some (.inl (r5,bz (k3+1)))
   else
    some (.inr left2)) (bz (left -1),0)=some o∧(-1≤o∧o<left∧(0≤o→W left.toNat v∧(He left.toNat v:Int)≤left -o)):=by
   rw[aS (by omega) (by omega)]
   refine uw (fun s=>0≤s.2∧-1≤s.1∧s.2+s.1≤left -1∧s.2≤(v.L.length:Int)∧(0≤s.1→(∀j:Nat,(j:Int)<s.2→W (left -1).toNat (ix v.L (j:Int)))∧(((v.L.take s.2.toNat).map (He (left -1).toNat)).sum:Int)≤left -1 -s.1)) (fun s=>(s.1+1).toNat) _ ?h (by show(left -1+1).toNat<_;omega) ?s
   case h=>exact⟨Int.le_refl 0,by show -1≤left -1;omega,by show 0+(left -1)≤left -1;omega,by show(0:Int)≤_;omega,fun _=>⟨fun j hj=>by have:(j:Int)<0:=hj;omega,by show(0:Int)≤left -1 -(left -1);omega⟩⟩
   case s=>
    intro s hs
    obtain⟨l2,k⟩:=s
    obtain⟨i1,i2,i3,i4,i5⟩:=hs
    simp only at i1 i2 i3 i4 i5
    by_cases hc:k<(v.L.length:Int)∧0≤l2
    ·have e:((decide (k<(v.L.length:Int)))&&(decide (l2≥0)))=true:=by simp;exact⟨hc.1,hc.2⟩
     obtain⟨r,h3,h4,h5,h6⟩:=ih (ix v.L k) l2 hc.2 (by omega) (by omega)
     simp only[e,if_true]
     rw[qm ⟨i1,hc.1⟩,h3,dt]
     refine⟨_,rfl,?_⟩
     rw[aS (by omega) (by omega)]
     refine⟨⟨by show 0≤k+1;omega,h4,by show k+1+r≤left -1;omega,by show k+1≤_;omega,fun hr=>?_⟩,by show(r+1).toNat<(l2+1).toNat;omega⟩
     have hr':0≤r:=hr
     obtain⟨i6,i7⟩:=i5 hc.2
     obtain⟨h7,h8⟩:=h6 hr'
     refine⟨fun j hj=>?_,?_⟩
     ·have hj':(j:Int)<k+1:=hj
      by_cases hjk:(j:Int)<k
      ·exact i6 j hjk
      ·rw[show(j:Int)=k by omega]
       exact OK _ _ _ (by omega) h7
     ·have hk:k.toNat<v.L.length:=by omega
      show(((v.L.take (k+1).toNat).map (He (left -1).toNat)).sum:Int)≤left -1 -r
      rw[show(k+1).toNat=k.toNat+1 by omega,List.take_succ_eq_append_getElem hk,List.map_append,List.sum_append]
      have e2:ix v.L k=v.L[k.toNat]:=FL hk
      rw[e2]at h7 h8
      have e3:=Tf l2.toNat (left -1).toNat _ (by omega) h7
      simp only[List.map_cons,List.map_nil,List.sum_cons,List.sum_nil,Nat.add_zero]
      rw[e3]
      push_cast
      omega
    ·have e:((decide (k<(v.L.length:Int)))&&(decide (l2≥0)))=false:=by
      cases h:((decide (k<(v.L.length:Int)))&&(decide (l2≥0)))with
      |false=>rfl
      |true=>simp at h;exact(hc ⟨h.1,h.2⟩).elim
     simp only[e,Bool.false_eq_true,if_false]
     refine⟨_,rfl,i2,by show l2<left;omega,fun hl=>?_⟩
     have hl':0≤l2:=hl
     have hk:k=(v.L.length:Int):=by
      by_cases h:k<(v.L.length:Int)
      ·exact(hc ⟨h,hl'⟩).elim
      ·omega
     obtain⟨m,hm⟩:∃m,left.toNat=m+1:=⟨left.toNat -1,by omega⟩
     rw[hm]
     obtain⟨i6,i7⟩:=i5 hl'
     have em:(left -1).toNat=m:=by omega
     rw[em]at i6 i7
     refine⟨⟨by omega,fun x hx=>?_⟩,?_⟩
     ·obtain⟨j,hj,rfl⟩:=List.getElem_of_mem hx
      have:=i6 j (by omega)
      rw[hU hj]at this
      exact this
     ·rw[hk,show((v.L.length:Int)).toNat=v.L.length from rfl,List.take_length]at i7
      show((1+(v.L.map (He m)).sum:Nat):Int)≤left -l2
      push_cast
      omega
  obtain⟨o,h3,h4⟩:=hit
  rw[h3]
  exact⟨o,rfl,h4⟩
theorem texts:∀(n:Nat)(v:aa)(fuel:Nat),W n v→n≤fuel→n≤4611686018427387904→∃b,dJ fuel v=some b
 |0,_,_,h,_,_=>h.elim
 |n+1,_,0,_,h,_=>by omega
 |n+1,v,fuel+1,h,hf,hn=>by
  rw[dJ]
  have hit:∃o:Unit⊕Bool,iter (fun(k3:Int)=>
   if decide (k3<(v.L.length:Int))then
    aK (0≤k3∧k3<v.L.length)<|
    aP (dJ fuel (ix v.L k3)) fun r6=>
    if !r6 then
     some (.inr (.inr false))
    else
     some (.inl (bz (k3+1)))
   else
    some (.inr (.inl ()))) 0=some o∧True:=by
   refine uw (fun k=>0≤k) (fun k=>((v.L.length:Int) -k).toNat) _ (Int.le_refl 0) (by have:=h.1;omega) fun k hk=>?_
   by_cases hl:k<(v.L.length:Int)
   ·rw[if_pos (by simpa using hl),qm ⟨hk,hl⟩]
    obtain⟨b,hb⟩:=texts n (ix v.L k) fuel (by
     rw[FL (by omega)]
     exact h.2 _ (List.getElem_mem _)) (by omega) (by omega)
    rw[hb,dt]
    cases b with
    |false=>exact⟨_,rfl,trivial⟩
    |true=>
     refine⟨_,rfl,?_⟩
     have:=h.1
     show 0≤bz (k+1)∧((v.L.length:Int) -bz (k+1)).toNat<((v.L.length:Int) -k).toNat
     rw[aS (by omega) (by omega)]
     exact⟨by omega,by omega⟩
   ·rw[if_neg (by simpa using hl)]
    exact⟨_,rfl,trivial⟩
  obtain⟨o,h1,_⟩:=hit
  rw[h1]
  cases o with
  |inl u=>exact⟨_,rfl⟩
  |inr b=>exact⟨_,rfl⟩
end Go.AB
end
section
set_option linter.unusedSimpArgs false
namespace Go.AB
open Go
def afs(l:List Int)(n:Int):List Int:=if l.contains n then l else l++[n]
def Ya:Nat→aa→List Int→List Int
 |0,_,l=>l
 |n+1,v,l=>
  if v.Kind==8 then afs l v.N
  else if(v.Kind==6)||(v.Kind==7)then v.L.foldl (fun l x=>Ya n x l) l else l
theorem R4(m:List (Int×Bool))(a k:Int):jI (wV m a true) k=if a=k then some true else jI m k:=by
 induction m with
 |nil=>
  show(bif k==a then some true else none)=_
  by_cases e:a=k
  ·subst e;simp
  ·rw[if_neg e]
   have:(k==a)=false:=by rw[beq_eq_false_iff_ne];exact fun h=>e h.symm
   rw[this];rfl
 |cons x m ih=>
  obtain⟨c,b⟩:=x
  show jI (bif a==c then(a,true)::m else(c,b)::wV m a true) k=_
  by_cases e:a=c
  ·subst e
   rw[show(a==a)=true by simp,cond_true]
   show(bif k==a then some true else jI m k)=if a=k then some true else(bif k==a then some b else jI m k)
   by_cases e2:a=k
   ·subst e2;simp
   ·rw[if_neg e2]
    have:(k==a)=false:=by rw[beq_eq_false_iff_ne];exact fun h=>e2 h.symm
    rw[this];rfl
  ·have e1:(a==c)=false:=by rw[beq_eq_false_iff_ne];exact e
   rw[e1,cond_false]
   show(bif k==c then some b else jI (wV m a true) k)=if a=k then some true else(bif k==c then some b else jI m k)
   rw[ih]
   by_cases e2:a=k
   ·subst e2;rw[e1];simp
   ·rw[if_neg e2,if_neg e2]
def Seen(m:List (Int×Bool))(l:List Int):Prop:=∀k,PK false m k=l.contains k
theorem Seen.add{m:List (Int×Bool)}{l:List Int}(h:Seen m l)(n:Int):Seen (wV m n true) (l++[n]):=fun k=>by
 have:=h k
 unfold PK at this⊢
 rw[R4,List.contains_eq_mem]
 rw[List.contains_eq_mem]at this
 by_cases e:n=k
 ·subst e;simp
 ·rw[if_neg e,this]
  have e':¬k=n:=fun h=>e h.symm
  simp[e']
end Go.AB
end
section
set_option linter.unusedSimpArgs false
namespace Go.AB
open Go
def Eg(v:aa):Prop:=W 302 v∧He 302 v≤1300
def rs3(v:aa):List Int:=Ya 302 v []
theorem UH(L:List aa)(g:aa→Nat)(i:Nat):((L.drop i).map g).sum≤(L.map g).sum:=by
 have e:L.map g=(L.take i).map g++(L.drop i).map g:=by rw[←List.map_append,List.take_append_drop]
 rw[e,List.sum_append];omega
theorem drop_eq{v:aa}(h:Eg v)(key:aA):∃v',eU v key=some v'∧jy v key=some v'∧Eg v':=by
 have hlen:v.L.length≤301:=h.1.1
 obtain⟨r,h1,h2,h3⟩:=DW v key (by omega)
 by_cases h0:r<0
 ·exact⟨v,cg h1 (cC (decide_eq_true h0) rfl),cg ((xN v key).trans h1) (cC (decide_eq_true h0) rfl),h⟩
 ·obtain⟨i,rfl⟩:∃i:Nat,r=(i:Int):=⟨r.toNat,by omega⟩
  have hi:i<v.L.length:=by omega
  have hsum:((v.L.take i++v.L.drop (min (i+2) v.L.length)).map (He 301)).sum≤(v.L.map (He 301)).sum:=by
   have e:v.L.map (He 301)=(v.L.take i).map (He 301)++(v.L.drop i).map (He 301):=by rw[←List.map_append,List.take_append_drop]
   have e2:v.L.drop (min (i+2) v.L.length)=(v.L.drop i).drop (min (i+2) v.L.length -i):=by rw[List.drop_drop];congr 1;omega
   have:=UH (v.L.drop i) (He 301) (min (i+2) v.L.length -i)
   rw[e,List.map_append,List.sum_append,List.sum_append,e2]
   omega
  refine⟨⟨v.Kind,v.N,v.S,v.L.take i++v.L.drop (min (i+2) v.L.length)⟩,?_,?_,?_,?_⟩
  ·exact cg h1 (bP (by simp) (bc ⟨by omega,by omega,by unfold room;omega⟩ rfl))
  ·have hw:bz ((i:Int)+2)=((i+2:Nat):Int):=by rw[aS (by omega) (by omega)];omega
   have p0:part v.L 0 (i:Int)=v.L.take i:=by
    show(v.L.drop 0).take ((i:Int) -0).toNat=_
    rw[Int.sub_zero];rfl
   have hl0:(v.L.take i).length≤301:=by rw[List.length_take];omega
   refine cg ((xN v key).trans h1) (bP (by simp) (bc ⟨by omega,by omega,by omega⟩ ?_))
   rw[p0,hw]
   refine bc (by simp only[List.length_nil];unfold room;omega) ?_
   refine Nz (a:=v.L.take i++v.L.drop (min (i+2) v.L.length)) ?_ rfl
   by_cases h4:i+2<v.L.length
   ·have p1:part v.L ((i+2:Nat):Int) (v.L.length:Int)=v.L.drop (i+2):=by
     show(v.L.drop (i+2)).take (((v.L.length:Int) -((i+2:Nat):Int)).toNat)=_
     exact List.take_of_length_le (by rw[List.length_drop];omega)
    rw[p1,Nat.min_eq_left (by omega)]
    have hl1:(v.L.drop (i+2)).length≤301:=by rw[List.length_drop];omega
    exact cC (decide_eq_true (by omega)) (bc ⟨by omega,by omega,by omega⟩ (bc (by unfold room;omega) rfl))
   ·rw[Nat.min_eq_right (by omega),List.drop_length,List.append_nil]
    exact bP (by simp;omega) rfl
  ·refine⟨?_,fun x hx=>?_⟩
   ·show(v.L.take i++v.L.drop (min (i+2) v.L.length)).length≤301
    rw[List.length_append,List.length_take,List.length_drop];omega
   ·rcases List.mem_append.1 hx with hx|hx
    ·exact h.1.2 x (List.mem_of_mem_take hx)
    ·exact h.1.2 x (List.mem_of_mem_drop hx)
  ·have e:He 302 v=1+(v.L.map (He 301)).sum:=rfl
   have h2:=h.2
   show 1+((v.L.take i++v.L.drop (min (i+2) v.L.length)).map (He 301)).sum≤1300
   omega
end Go.AB
end
