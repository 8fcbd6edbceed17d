/- A part of the proof: Sn, Vq0, Wk, Wx, Wy, Vf0, Xa, Xb, Xc. -/
import Derived.Test.YtkeagffgdajggaaGreatNu13
import Derived.Test.YtkeagffgdajggaaGreatNu23
import Derived.Test.YtkeagffgdajggaaGreatNu15
import Derived.Test.YtkeagffgdajggaaGreatNu22
set_option linter.unusedSimpArgs false
set_option linter.unusedVariables false
section
set_option maxRecDepth 4000
namespace Go.AB
open Go
open Go.Proofs.Tryz (prog)
attribute[-go_sem] cE da bM cD Nat.add_zero nr bV
def pH:IC:=
 (af [mv 5 0,le 6 0 5,mi 7 0] [0,1,6,7]
 (.block 0 (.loop [(0,false),(1,false),(6,false),(7,false)] (af [bt 8 .lss 7 6] [0,1,6,7,8]
 (.seq (.cond (.t 8) .skip
 (.exit 0))
 (.seq (.block 1 (af [mv 9 7,mv 4 9] [0,1,4,6,7]
 (af [mv 10 4,bn 11 .eql 10 0,mv 12 11,dh 13 0 12 false,dh 14 4 12 false,kS 15 12 false .sub 14 1,dq 16 12 false (.indexAddr [.int .u8 0] (.t 13) (.t 15)),lg 17 12 false 1 16,RX 18 12 false 67 17,po 19 12 18,mv 20 19,dh 21 0 20 false,dh 22 4 20 false,kS 23 20 false .sub 22 1,dq 24 20 false (.indexAddr [.int .u8 0] (.t 21) (.t 23)),lg 25 20 false 1 24,RX 26 20 false 68 25,po 27 20 26] [0,1,4,6,7,27]
 (.cond (.t 27) (.bN none [mv 28 1,mv 29 4,i1 30 (.cu (.t 28) [(.t 29)])] [0,1,6,7])
 .skip))))
 (.bN none [bn 31 .add 7 1,mv 7 31] [0,1,6,7])))))))
theorem zh:aE prog 30 32 [] pH=true:=by kernel_rfl
def rM:IC:=
 (af [ld 7 1 1,mv 8 0,c2 9 32 7 8,iV 6 9,ex 10 6 0,ex 11 6 1,mv 4 10,mv 5 11] [0,2,4,5]
 (.seq (af [mv 12 5,no 13 12] [0,2,4,13]
 (.cond (.t 13) .ret
 .skip))
 (.seq (.block 0 (.loop [(0,false),(2,false),(4,false)] (.seq (af [ld 14 1 2,le 15 0 14,mv 16 4,bt 17 .lss 15 16] [0,2,4,17]
 (.cond (.t 17) .skip
 (.exit 0)))
 (.block 1 (.bN none [ld 18 1 2,i1 19 (.bq 1 1 jV [(0,1,(.c (.int .i64 (-1))))]),i1 20 (.eV 1 8 jV (.t 18) (.t 19)),st 1 2 20] [0,2,4])))))
 (.bN none [ld 21 1 2,mv 22 4,bn 23 .sub 22 1,mv 24 0,ia 25 jV 21 23,st 1 25 24] []))))
theorem B9:aE prog 31 26 [] rM=true:=by kernel_rfl
def tN:IC:=
 (af [i1 1 (.oz 1 (.t 0)),c6 2 (.sl true 1 0 [])] [1]
 (af [i1 3 (.gC [.arr 0 0 0 0])] [1,3]
 (af [ld 4 1 1,i1 5 (.kq 31 [] [(.t 1),(.t 3)]),c2 6 30 4 5] [3]
 (af [ld 7 1 3,i1 2 (.T7 1 true (.t 7))] [2]
 .ret))))
theorem D0:aE prog 9 8 [⟨2,false,none⟩] tN=true:=by kernel_rfl
def tO:IC:=
 (af [i1 1 (.oz 1 (.t 0)),i1 2 (.aq iA),c6 3 (.bool false)] [1,2]
 (af [i1 7 (.bq 1 7 [.int .u8 0,.int .u8 0,.int .u8 0,.int .u8 0,.int .u8 0,.int .u8 0,.int .u8 0] [(0,1,(.c (.int .u8 116))),(1,1,(.c (.int .u8 114))),(2,1,(.c (.int .u8 97))),(3,1,(.c (.int .u8 105))),(4,1,(.c (.int .u8 108))),(5,1,(.c (.int .u8 101))),(6,1,(.c (.int .u8 114)))]),i1 8 (.kc (.t 7)),i1 4 (.gC [.sl true 1 0 []]),st 1 4 8] [1,2,4]
 (af [i1 5 (.gC qT)] [1,2,4,5]
 (af [i1 6 (.gC [.bool false]),i0 (.store 1 (.t 6) (.c (.bool false)))] [1,2,4,5,6]
 (af [ld 9 1 1,i1 10 (.kq 34 [] [(.t 1),(.t 4),(.t 5),(.t 6)]),c2 11 30 9 10] [2,5,6]
 (.seq (.wq [2] 4 [lm 12 4 5,ld 13 1 6,st 4 2 12,mv 3 13] [2,3])
 .ret))))))
theorem D1:aE prog 12 14 [⟨2,false,some (4,true)⟩,⟨3,true,none⟩] tO=true:=by kernel_rfl
def rN:IC:=
 (.seq (.seq (.bN (some 6) [ld 11 1 1,mv 12 0,rj 13 1 11 12,ld 14 1 2,c2 15 35 13 14,no 16 15] [0,1,2,3,4,16])
 (.cond (.t 16) .ret
 .skip))
 (af [ld 18 1 1,mv 19 0,ld 20 1 2,le 21 0 20,bt 22 .add 19 21,i1 23 (.call 36 [(.t 18),(.t 22),(.c (.bool true))]),iV 17 23,ex 24 17 0,ex 25 17 1,ex 26 17 2,i1 6 (.aq iA),st 4 6 24,mv 7 25,mv 8 26] [3,4,6,8]
 (af [lm 28 4 6,i1 29 (.call 37 [(.t 28),(.c (.str [82,111,111,116]))]),iV 27 29,ex 30 27 0,ex 31 27 1,i1 9 (.aq iA),st 4 9 30,mv 10 31] [3,4,6,8,9]
 (af [mv 32 8,bn 33 .eql 32 0,mv 34 33,fg 35 34 true 0 9,lg 36 34 true 1 35,kS 37 34 true .eql 36 8,pf 38 34 37] [3,4,6,38]
 (.cond (.t 38) (.bN none [lm 39 4 6,st 4 3 39,i0 (.store 1 (.t 4) (.c (.bool true)))] [])
 .skip)))))
theorem Ca:aE prog 34 40 [] rN=true:=by kernel_rfl
def beg(b:List UInt8)(k:Int):Option Bool:=bif k==0 then some true else aW (jx (ix b (k -1))) fun x=>bif x then some true else mB (ix b (k -1))
def Tq{S:Type}(step:S->Int->Option S)(b:List UInt8)(q:S×Int):Option ((S×Int)⊕S):=bif decide (q.2<b.length)then aG (0<=q.2/\q.2<2^62)<|aW (beg b q.2) fun x=>bif x then aW (step q.1 q.2) fun t=>some (.inl (t,q.2+1))else some (.inl (q.1,q.2+1))else some (.inr q.1)
theorem Vk{S:Type}{step:S->Int->Option S}{b:List UInt8}{c:Nat}{en:List AV}{R:S->ab->Prop}{st:S}{s:ab}{Q:List AV->ab->Prop}(hok:(pz prog c=true)=True)(hv:bZ (fun x=>match x with|.c a=>a|_=>.undef) (en.map .c)=some en)
 (jb:∀st k s st',step st k=some st'->R st s->FN prog c ([.int .i64 k]++en) s fun rs s'=>rs=[]/\R st' s')(h0:R st s)(hm:ok (iter (Tq step b) (st,0)) fun st'=>∀s',R st' s'->Q [] s'):
 FN prog 30 [.sl false 1 b.length (flat b),.fn c [] en] s Q:=by
 refine FO zh rfl rfl ?_
 rw[pH]
 simp -implicitDefEqProofs only[go_sem,seval]
 refine ga (fun(q:S×Int) U=>∃s',R q.1 s'/\U=(⟨[(0,.sl false 1 b.length (flat b)),(1,.fn c [] en),(6,.int .i64 b.length),(7,.int .i64 q.2)],[],s'⟩:St)) ⟨s,h0,rfl⟩ ?_ hm
 rintro J ⟨st1,k⟩ U ⟨s1,hR,rfl⟩ hb
 unfold Tq at hb
 simp only at hb
 cases hlt:decide (k<(b.length:Int))with
 |false=>
  rw[hlt,cond_false,aA]at hb
  simp only[mU]at hb
  simp -implicitDefEqProofs only[go_sem,seval,hlt,Bool.true_eq_false,Bool.false_eq_true,false_implies,true_implies,true_and,and_true]
  exact hb s1 hR
 |true=>
  rw[hlt,cond_true,dB,dF]at hb
  obtain⟨⟨q1,q2⟩,x,hx,hb⟩:=hb
  have hk:k<(b.length:Int):=by simpa using hlt
  have w1:bj (k+1)=k+1:=aI (by omega) (by omega)
  have w2:bj (k -1)=k -1:=aI (by omega) (by omega)
  unfold beg at hx
  cases h0:(k==0)with
  |true=>
   rw[h0,cond_true]at hx
   injection hx with hx
   subst hx
   rw[cond_true,dF]at hb
   obtain⟨t,ht,hb⟩:=hb
   rw[aA]at hb
   simp only[gU]at hb
   simp -implicitDefEqProofs only[go_sem,seval,hlt,h0,w1,w2,Bool.true_eq_false,Bool.false_eq_true,false_implies,true_implies,true_and,and_true,Bool.true_or]
   refine⟨by simpa using hok,FN.mono (jb _ _ _ _ ht hR) fun rs s'⟨e,hR'⟩=>?_⟩
   subst e
   simp -implicitDefEqProofs only[go_sem,seval,w1]
   exact hb _ ⟨s',hR',rfl⟩
  |false=>
   rw[h0,cond_false]at hx
   have hx':ok (aW (jx (ix b (k -1))) fun x=>bif x then some true else mB (ix b (k -1))) fun z=>z=x:=⟨x,hx,rfl⟩
   rw[dF]at hx'
   obtain⟨x1,hx1,hx'⟩:=hx'
   have k1:0<=k -1/\k -1<(b.length:Int):=by
    have:k≠0:=by simpa using h0
    omega
   cases x1 with
   |true=>
    rw[cond_true,aA]at hx'
    subst hx'
    rw[cond_true,dF]at hb
    obtain⟨t,ht,hb⟩:=hb
    rw[aA]at hb
    simp only[gU]at hb
    simp -implicitDefEqProofs only[go_sem,seval,hlt,h0,w1,w2,Bool.true_eq_false,Bool.false_eq_true,false_implies,true_implies,true_and,and_true,Bool.true_or]
    refine⟨k1,FE.app (lL hx1) ?_⟩
    simp -implicitDefEqProofs only[go_sem,seval,w1,w2,Bool.true_eq_false,Bool.false_eq_true,false_implies,true_implies,true_and,and_true,Bool.true_or]
    refine⟨by simpa using hok,FN.mono (jb _ _ _ _ ht hR) fun rs s'⟨e,hR'⟩=>?_⟩
    subst e
    simp -implicitDefEqProofs only[go_sem,seval,w1]
    exact hb _ ⟨s',hR',rfl⟩
   |false=>
    rw[cond_false]at hx'
    obtain⟨x2,hx2,rfl⟩:=hx'
    cases x2 with
    |true=>
     rw[cond_true,dF]at hb
     obtain⟨t,ht,hb⟩:=hb
     rw[aA]at hb
     simp only[gU]at hb
     simp -implicitDefEqProofs only[go_sem,seval,hlt,h0,w1,w2,Bool.true_eq_false,Bool.false_eq_true,false_implies,true_implies,true_and,and_true,Bool.true_or]
     refine⟨k1,FE.app (lL hx1) ?_⟩
     simp -implicitDefEqProofs only[go_sem,seval,w1,w2,Bool.true_eq_false,Bool.false_eq_true,false_implies,true_implies,true_and,and_true,Bool.true_or]
     refine⟨k1,FE.app (sQ hx2) ?_⟩
     simp -implicitDefEqProofs only[go_sem,seval,w1,w2,Bool.true_eq_false,Bool.false_eq_true,false_implies,true_implies,true_and,and_true,Bool.true_or]
     refine⟨by simpa using hok,FN.mono (jb _ _ _ _ ht hR) fun rs s'⟨e,hR'⟩=>?_⟩
     subst e
     simp -implicitDefEqProofs only[go_sem,seval,w1]
     exact hb _ ⟨s',hR',rfl⟩
    |false=>
     rw[cond_false,aA]at hb
     simp only[gU]at hb
     simp -implicitDefEqProofs only[go_sem,seval,hlt,h0,w1,w2,Bool.true_eq_false,Bool.false_eq_true,false_implies,true_implies,true_and,and_true,Bool.true_or]
     refine⟨k1,FE.app (lL hx1) ?_⟩
     simp -implicitDefEqProofs only[go_sem,seval,w1,w2,Bool.true_eq_false,Bool.false_eq_true,false_implies,true_implies,true_and,and_true,Bool.true_or]
     refine⟨k1,FE.app (sQ hx2) ?_⟩
     simp -implicitDefEqProofs only[go_sem,seval,w1,w2,Bool.true_eq_false,Bool.false_eq_true,false_implies,true_implies,true_and,and_true,Bool.true_or]
     exact hb _ ⟨s1,hR,rfl⟩
def agN(n:Int)(out:List Int):Option (List Int⊕List Int):=bif decide ((out.length:Int)<n)then aG ((out.length+1)*8<=room)<|some (.inl (out++[-1]))else some (.inr out)
def E3(b:List UInt8)(out:List Int)(at_:Int):Option (List Int):=aW (xm b at_) fun r=>bif !r.2 then some out else aW (iter (agN r.1) out) fun o=>aG (1<=r.1/\r.1<=o.length/\r.1<2^61)<|some (o.set (r.1 -1).toNat at_)
def Sq(s0:ab)(o:Nat)(out:List Int)(s:ab):Prop:=∃s1 r,s1 o=some (.cells [iB r out.length])/\Sub s0 s1/\gB s1 r out/\s=gp s1 r out
theorem UK{s:ab}{r:cU}{ls:List Int}{B:Nat}{o o':SO}(h:gB s r ls)(hB:s B=some o):(gp s r ls).set B o'=gp (s.set B o') r ls/\gB (s.set B o') r ls:=by
 cases r with
 |none=>exact⟨rfl,h⟩
 |some x=>
  obtain⟨rb,cap,sp⟩:=x
  obtain⟨h1,h2⟩:=h
  have hne:B≠rb:=fun e=>by subst e;rw[h1]at hB;cases hB
  refine⟨set_comm hne,⟨by rw[ai hne.symm];exact h1,h2⟩⟩
theorem RB{b:List UInt8}{s0 s:ab}{o bb:Nat}{out ZZ:List Int}{k:Int}(h0:s0 o=none)(hb:s0 bb=some (.cells [.sl false 1 b.length (flat b)]))(hs:E3 b out k=some ZZ)(h:Sq s0 o out s):
 FN prog 31 [.int .i64 k,.ref bb 0,.ref o 0] s fun rs s'=>rs=[]/\Sq s0 o ZZ s':=by
 have cJ:room=140737488355328:=rfl
 obtain⟨s1,r,h1,h2,h3,rfl⟩:=h
 have hbb:gp s1 r out bb=some (.cells [.sl false 1 b.length (flat b)]):=jm h3 (h2 _ _ hb)
 have hs':ok (E3 b out k) fun z=>z=ZZ:=⟨ZZ,hs,rfl⟩
 unfold E3 at hs'
 rw[dF]at hs'
 obtain⟨⟨n,is⟩,hh,hs'⟩:=hs'
 refine FO B9 rfl rfl ?_
 rw[rM]
 generalize hst:gp s1 r out=st at*
 simp -implicitDefEqProofs only[go_sem,seval,hbb]
 refine FE.app (Ni hh) ?_
 simp -implicitDefEqProofs only[go_sem,seval]
 refine⟨fun hi=>?_,fun hi=>?_⟩
 ·rw[hi,cond_true,aA]at hs'
  subst hs'
  exact⟨s1,r,h1,h2,h3,hst.symm⟩
 ·rw[hi,cond_false,dF]at hs'
  obtain⟨o2,ho2,hs'⟩:=hs'
  rw[dB,aA]at hs'
  obtain⟨⟨m1,m2,m3⟩,rfl⟩:=hs'
  refine ga (kf:=fun z=>z=o2) (fun(q:List Int) U=>∃s',Sq s0 o q s'/\U=(⟨[(0,.int .i64 k),(2,.ref o 0),(4,.int .i64 n)],[],s'⟩:St)) ⟨st,⟨s1,r,h1,h2,h3,hst.symm⟩,rfl⟩ ?_ ⟨o2,ho2,rfl⟩
  rintro J q U ⟨s',⟨s2,r2,g1,g2,g3,rfl⟩,rfl⟩ hq
  have hB:gp s2 r2 q o=some (.cells [iB r2 q.length]):=jm g3 g1
  unfold agN at hq
  cases hlt:decide ((q.length:Int)<n)with
  |false=>
   rw[hlt,cond_false,aA]at hq
   simp only[mU]at hq
   subst hq
   obtain⟨rb,cap,sp,rfl⟩:=Nf g3 (by omega)
   have w1:bj (n -1)=n -1:=aI (by omega) (by omega)
   obtain⟨r1,_⟩:=R2 q sp (n:=1) rfl (j:=n -1) (by omega) (by omega)
   have st1:=Yf q sp (n:=1) rfl k (j:=n -1) (by omega) (by omega)
   have st1:setAt (flat q++sp) ((n -1).toNat*1) [.int .i64 k]=_:=st1
   have hrb:gp s2 (some (rb,cap,sp)) q rb=some (.cells (flat q++sp)):=bd ..
   have hup:=Tm (l':=q.set (n -1).toNat k) g3 (List.length_set ..)
   have hne:o≠rb:=fun e=>by subst e;rw[g3.1]at g1;cases g1
   generalize L4:gp s2 (some (rb,cap,sp)) q=st2 at*
   generalize hcs:flat q++sp=cs at*
   have hB:st2 o=some (.cells [.arr rb 0 q.length cap]):=hB
   simp -implicitDefEqProofs only[go_sem,seval,hB,hlt,w1,hrb,Bool.true_eq_false,Bool.false_eq_true,false_implies,true_implies,true_and,and_true]
   rw[st1]
   refine⟨⟨by omega,by omega⟩,r1,s2,some (rb,cap,sp),by rw[List.length_set];exact g1,g2,hup,?_⟩
   rw[<-L4]
   exact set_set ..
  |true=>
   rw[hlt,cond_true,dB,aA]at hq
   simp only[gU]at hq
   obtain⟨hr,hq⟩:=hq
   generalize L4:gp s2 r2 q=st2 at*
   simp -implicitDefEqProofs only[go_sem,seval,hB,hlt,Bool.true_eq_false,Bool.false_eq_true,false_implies,true_implies,true_and,and_true]
   rw[gb]
   have fin:=wQ (E:=?_) (d:=?_) (K:=?_) (by':=8) (s:=s2) (r:=r2) (l:=q) (z:=(0:Int)) (v:=(-1:Int)) (sz:=1) ?_ g3 rfl hr ?_
   ·exact fin
   ·exact L4.symm
   ·intro s3 r3 f1 f2
    have hB2:s3 o=some (.cells [iB r2 q.length]):=f1 _ _ g1
    have hB3:gp s3 r3 (q++[(-1:Int)]) o=some (.cells [iB r2 q.length]):=jm f2 hB2
    generalize ak3:gp s3 r3 (q++[(-1:Int)])=st3 at hB3
    simp -implicitDefEqProofs only[go_sem,seval,hB3]
    refine hq _ ⟨_,?_,rfl⟩
    obtain⟨q1,q2⟩:=UK (o':=.cells [iB r3 (q.length+1)]) f2 hB2
    refine⟨s3.set o (.cells [iB r3 (q.length+1)]),r3,by rw[bd];simp,fun b' o' hb'=>?_,q2,?_⟩
    ·have hne:b'≠o:=fun e=>by subst e;rw[h0]at hb';cases hb'
     rw[ai hne]
     exact f1 _ _ (g2 _ _ hb')
    ·rw[<-ak3];exact q1
def tc(b:List UInt8):Option (List Int):=iter (Tq (E3 b) b) ([],0)
theorem Ei{b_0:List UInt8}{s:ab}{r:List Int}(h:tc b_0=some r):FE prog 9 [.sl false 1 b_0.length (flat b_0)] s [.sl false 1 r.length (flat r)] s:=by
 refine FN.lr (FO D0 rfl rfl ?_)
 rw[tN]
 simp -implicitDefEqProofs only[go_sem,seval]
 intro bb hbb o ho
 have n1:=ho
 rw[cY]at n1
 have hne:bb≠o:=n1.1.symm
 simp -implicitDefEqProofs only[go_sem,seval,ai hne]
 refine Vk (R:=Sq (s.set bb (.cells [.sl false 1 b_0.length (flat b_0)])) o) (eq_true (by kernel_rfl)) rfl (fun st k s1 st' hs hR=>RB ho bP hs hR) ⟨_,none,bP,(Sub.refl _).set ho,rfl,rfl⟩ ⟨r,h,fun s' hR=>?_⟩
 obtain⟨s1,r1,h1,h2,h3,rfl⟩:=hR
 have hB:=jm h3 h1
 generalize hst:gp s1 r1 r=st at*
 simp -implicitDefEqProofs only[go_sem,seval,hB]
 have fz:=An (E:=?_) (d:=?_) (K:=?_) (sz:=1) (s:=s1) (r:=r1) (l:=r) ?_ h3 rfl ?_
 ·exact fz
 ·exact hst.symm
 ·simp -implicitDefEqProofs only[go_sem,seval]
  exact⟨s,fun b o hb=>h2 _ _ (((Sub.refl s).set hbb) b o hb),rfl⟩
def trW:List UInt8:=[116,114,97,105,108,101,114]
def Ic(b:List UInt8)(st:aa×Bool)(k:Int):Option (aa×Bool):=
 aG (0<=k/\k<=b.length/\k<2^61)<|aW (j4 (part b k (b.length:Int)) trW) fun p=>bif !p then some st else
 aW (qp b (k+7) true) fun v=>aW (bk v.1 ⟨[82,111,111,116]⟩) fun g=>bif(v.2.2==0)&&(g.1.Kind==8)then some (v.1,true)else some st
def YR(s0:ab)(ov f:Nat)(st:aa×Bool)(s:ab):Prop:=s=(s0.set ov (.cells [.int .i64 st.1.Kind,.int .i64 st.1.N,.str st.1.S.b,.sl false 4 st.1.L.length (flat st.1.L)])).set f (.cells [.bool st.2])
theorem UY{b:List UInt8}{s0 s:ab}{ov f bb wb:Nat}{own:Bool}{st st':aa×Bool}{k:Int}(hv:s0 ov=none)(hf:s0 f=none)(hne:f≠ov)(hb:s0 bb=some (.cells [.sl false 1 b.length (flat b)]))(hw:s0 wb=some (.cells [.sl own 1 7 (flat trW)]))
 (hs:Ic b st k=some st')(h:YR s0 ov f st s):FN prog 34 [.int .i64 k,.ref bb 0,.ref wb 0,.ref ov 0,.ref f 0] s fun rs s'=>rs=[]/\YR s0 ov f st' s':=by
 have n1:bb≠ov:=fun e=>by subst e;rw[hv]at hb;cases hb
 have n2:bb≠f:=fun e=>by subst e;rw[hf]at hb;cases hb
 have n3:wb≠ov:=fun e=>by subst e;rw[hv]at hw;cases hw
 have n4:wb≠f:=fun e=>by subst e;rw[hf]at hw;cases hw
 have e1:s bb=some (.cells [.sl false 1 b.length (flat b)]):=by rw[h,ai n2,ai n1];exact hb
 have e2:s wb=some (.cells [.sl own 1 7 (flat trW)]):=by rw[h,ai n4,ai n3];exact hw
 have e3:s ov=some (.cells [.int .i64 st.1.Kind,.int .i64 st.1.N,.str st.1.S.b,.sl false 4 st.1.L.length (flat st.1.L)]):=by rw[h,ai hne.symm,bd]
 have e4:s f=some (.cells [.bool st.2]):=by rw[h,bd]
 have hs':ok (Ic b st k) fun z=>z=st':=⟨st',hs,rfl⟩
 unfold Ic at hs'
 rw[dB,dF]at hs'
 obtain⟨⟨k1,k2,k3⟩,p,hp,hs'⟩:=hs'
 have fp:=BP 1 b k (b.length:Int) rfl
 refine FO Ca rfl rfl ?_
 rw[rN]
 simp -implicitDefEqProofs only[go_sem,seval,e1,e2]
 refine⟨⟨k1,k2,Int.le_refl _⟩,[.bool p],rfl,yG (prefix_1:=trW) hp,?_⟩
 cases p with
 |false=>
  rw[Bool.not_false,cond_true,aA]at hs'
  subst hs'
  simp -implicitDefEqProofs only[go_sem,seval,Bool.not_false,Bool.true_eq_false,Bool.false_eq_true,false_implies,true_implies,true_and,and_true]
  exact h
 |true=>
  rw[Bool.not_true,cond_false,dF]at hs'
  obtain⟨v,hv2,hs'⟩:=hs'
  rw[dF]at hs'
  obtain⟨g,hg,hs'⟩:=hs'
  have w1:bj (k+7)=k+7:=aI (by omega) (by omega)
  have e7:((7:Nat):Int)=7:=rfl
  simp -implicitDefEqProofs only[go_sem,seval,e1,e2,e7,w1,Bool.not_true,Bool.true_eq_false,Bool.false_eq_true,false_implies,true_implies,true_and,and_true]
  refine FE.app (wc hv2) ?_
  simp -implicitDefEqProofs only[go_sem,seval,Bool.true_eq_false,Bool.false_eq_true,false_implies,true_implies,true_and,and_true]
  refine FE.app (ft hg) ?_
  simp -implicitDefEqProofs only[go_sem,seval,Bool.true_eq_false,Bool.false_eq_true,false_implies,true_implies,true_and,and_true]
  cases c1:(v.2.2==0)with
  |false=>
   simp only[c1,Bool.false_and,cond_false,aA]at hs'
   subst hs'
   simp -implicitDefEqProofs only[go_sem,seval,c1,Bool.true_eq_false,Bool.false_eq_true,false_implies,true_implies,true_and,and_true,Bool.false_and]
   first|exact h|trace_state
  |true=>
   cases c2:(g.1.Kind==8)with
   |false=>
    simp only[c1,c2,Bool.and_false,cond_false,aA]at hs'
    subst hs'
    simp -implicitDefEqProofs only[go_sem,seval,c1,c2,Bool.true_eq_false,Bool.false_eq_true,false_implies,true_implies,true_and,and_true,Bool.false_and]
    first|exact h|trace_state
   |true=>
    simp only[c1,c2,Bool.and_true,cond_true,aA]at hs'
    subst hs'
    have e5:∀cs,(s.set ov (.cells cs)) f=some (.cells [.bool st.2]):=fun cs=>by rw[ai hne];exact e4
    simp -implicitDefEqProofs only[go_sem,seval,c1,c2,e3,e5,Bool.true_eq_false,Bool.false_eq_true,false_implies,true_implies,true_and,and_true,Bool.false_and]
    unfold YR at h⊢
    rw[h]
    funext x
    by_cases hx:x=f
    ·subst hx;rw[bd,bd]
    ·rw[ai hx,ai hx]
     by_cases hy:x=ov
     ·subst hy;rw[bd,bd]
     ·rw[ai hy,ai hy,ai hx,ai hy]
def td(b:List UInt8):Option (aa×Bool):=iter (Tq (Ic b) b) ((zV,false),0)
theorem Ej{b_0:List UInt8}{s:ab}{r:aa×Bool}(h:td b_0=some r):FE prog 12 [.sl false 1 b_0.length (flat b_0)] s
 [.agg [.int .i64 r.1.Kind,.int .i64 r.1.N,.str r.1.S.b,.sl false 4 r.1.L.length (flat r.1.L)],.bool r.2] s:=by
 refine FN.lr (FO D1 rfl rfl ?_)
 rw[tO]
 simp -implicitDefEqProofs only[go_sem,seval]
 intro bb hbb wb hwb ov hov f hf
 have n1:=hwb
 rw[cY]at n1
 generalize hS1:s.set bb (.cells [.sl false 1 b_0.length (flat b_0)])=S1 at*
 have hb1:S1 bb=some (.cells [.sl false 1 b_0.length (flat b_0)]):=by rw[<-hS1];exact bd ..
 have hw':S1 wb=none:=hwb
 generalize hS0:S1.set wb _=S0 at*
 have hw0:S0 wb=some (.cells [.sl false 1 7 (flat trW)]):=by rw[<-hS0];exact bd ..
 have hb0:S0 bb=some (.cells [.sl false 1 b_0.length (flat b_0)]):=by rw[<-hS0,ai (fun e=>by rw[e,hw']at hb1;cases hb1)];exact hb1
 have eD:Sub s S0:=by
  rw[<-hS0,<-hS1]
  exact((Sub.refl s).set hbb).set (by rw[hS1];exact hw')
 rw[cY]at hf
 have eB:((S0.set ov (.cells [.int .i64 0,.int .i64 0,.str [],.sl false 4 0 []])).set f (.cells [.bool false])) bb=some (.cells [.sl false 1 b_0.length (flat b_0)]):=by
  rw[ai (fun e=>by rw[<-e,hb0]at hf;cases hf.2),ai (fun e=>by rw[<-e,hb0]at hov;cases hov)]
  exact hb0
 simp -implicitDefEqProofs only[go_sem,seval,eB]
 refine Vk (R:=YR S0 ov f) (step:=Ic b_0) (st:=(zV,false)) (eq_true (by kernel_rfl)) rfl (fun st k s1 st' hs hR=>UY hov hf.2 hf.1 hb0 hw0 hs hR) rfl ⟨r,h,fun s' hR=>?_⟩
 have e3:s' ov=some (.cells [.int .i64 r.1.Kind,.int .i64 r.1.N,.str r.1.S.b,.sl false 4 r.1.L.length (flat r.1.L)]):=by rw[hR,ai hf.1.symm,bd]
 have e4:s' f=some (.cells [.bool r.2]):=by rw[hR,bd]
 have hs2:Sub s s':=by
  rw[hR]
  exact(eD.set hov).set (by rw[cY];exact hf)
 simp -implicitDefEqProofs only[go_sem,seval,e3,e4]
 first|exact⟨s,hs2,rfl⟩|exact⟨rfl,s,hs2,rfl⟩|trace_state
end Go.AB
end
section
set_option maxRecDepth 4000
namespace Go.AB
open Go
open Go.Proofs.Tryz (prog)
attribute[-go_sem] cE da bM cD Nat.add_zero nr bV
def sf(s_0:II):Option (cF×Int×Int):=
 aW (ph s_0) fun r1=>
 aW (rk s_0 0 r1) fun r2=>
 if !r2.2 then
  none
 else
  aW (tc r2.1) fun r3=>
  aW (td r2.1) fun r4=>
  if r4.2 then
   aW (bk r4.1 (aw.mk [82,111,111,116])) fun r5=>
   if r5.1.N==0 then
    none
   else
    some ((cF.mk r3 r5.1.N),0,0)
  else
   none
def AJ:IC:=
 (af [i1 2 (.aq [.sl true 1 0 [],.int .i64 0]),mi 3 0,mi 4 0] [0,2]
 (af [mv 13 0,mv 14 0,c1 15 62 14,i1 16 (.call 61 [(.t 13),(.c (.int .i64 0)),(.t 15)]),iV 12 16,ex 17 12 0,ex 18 12 1,mt 5 17,mv 6 18] [2,5,6]
 (.seq (af [mv 19 6,no 20 19] [2,5,20]
 (.cond (.t 20) .dead
 .skip))
 (af [mv 24 5,c1 25 9 24,i1 26 (.build [.sl true 1 0 [],.int .i64 0] [(0,1,(.t 25))]),i1 7 (.aq [.sl true 1 0 [],.int .i64 0]),st 2 7 26] [2,5,7]
 (.seq (af [mt 28 5,c1 29 12 28,iV 27 29,ex 30 27 0,ex 31 27 1,i1 8 (.aq iA),st 4 8 30,mv 9 31] [2,7,8,9]
 (af [mv 32 9] [2,7,8,32]
 (.cond (.t 32) (af [lm 34 4 8,i1 35 (.call 37 [(.t 34),(.c (.str [82,111,111,116]))]),iV 33 35,ex 36 33 0,ex 37 33 1,i1 10 (.aq iA),st 4 10 36,mv 11 37] [2,7,10]
 (.bN none [fa 38 1 10,ld 39 1 38,fa 40 1 7,st 1 40 39] [2,7]))
 .dead)))
 (.seq (af [fa 46 1 7,ld 47 1 46,bn 48 .eql 47 0] [2,7,48]
 (.cond (.t 48) .dead
 .skip))
 (af [lm 50 2 7,st 2 2 50,mi 3 0,mi 4 0] [2,3,4]
 .ret)))))))
theorem Mk:aE prog 28 51 [⟨2,false,some (2,true)⟩,⟨3,true,none⟩,⟨4,true,none⟩] AJ=true:=by kernel_rfl
theorem Nh{s_0}{s:ab}{Q:List AV->ab->Prop}(va0:iW s s_0):ok (sf s_0) (fun r=>Q [.agg [sF 1 r.1.fE,.int .i64 r.1.cM],.int .i64 r.2.1,.int .i64 r.2.2] s)->FN prog 28 [.ref s_0.B 0] s Q:=by
 intro h
 refine FO Mk rfl rfl ?_
 revert h
 rw[AJ,sf]
 repeat'(first
  |(with_reducible first|exact cW|refine bK ?_ ?_|refine de ?_|refine ak (fun _(h:ph s_0=some _)=>xF (iW.mono (by assumption) (by repeat'(first|exact Sub.refl _|refine Sub.set ?_ ?_|assumption|(simp[ab.set, *];done)))) h) (fun r1=>?_)|refine ak (fun _(h:rk s_0 0 r1=some _)=>zW (iW.mono (by assumption) (by repeat'(first|exact Sub.refl _|refine Sub.set ?_ ?_|assumption|(simp[ab.set, *];done)))) h) (fun r2=>?_)|refine ak (fun _(h:tc r2.1=some _)=>Ei h) (fun r3=>?_)|refine ak (fun _(h:td r2.1=some _)=>Ej h) (fun r4=>?_)|refine ak (fun _(h:bk r4.1 (aw.mk [82,111,111,116])=some _)=>ft h) (fun r5=>?_))
  |simp -implicitDefEqProofs only[go_sem,seval])
theorem Ng{s_0}{s:ab}{r:cF×Int×Int}(va0:iW s s_0)(h:sf s_0=some r):FE prog 28 [.ref s_0.B 0] s [.agg [sF 1 r.1.fE,.int .i64 r.1.cM],.int .i64 r.2.1,.int .i64 r.2.2] s:=Nh va0 ⟨r,h,rfl,rfl⟩
end Go.AB
end
section
set_option maxRecDepth 4000
namespace Go.AB
open Go
open Go.Proofs.Tryz (prog)
attribute[-go_sem] cE da bM cD Nat.add_zero nr bV
def AU:IC:=
 (af [i1 4 (.aq [.sl true 6 0 [],.int .i64 0,.int .i64 0,.str [],.sl true 4 0 []]),mi 5 0,mi 6 0] [0,1,4]
 (.CI 0 [(0,false),(1,false),(4,false),(7,false),(8,false)] (.bN none [c6 7 (.fn 90 [] []),c6 8 (.bool false)] [0,1,4,7,8])
 .skip
 .skip
 (af [mv 14 7,mv 15 0,i1 16 (.cu (.t 14) [(.t 15)]),iV 13 16,ex 17 13 0,ex 18 13 1,ex 19 13 2,i1 9 (.aq [.sl true 1 0 [],.int .i64 0]),st 2 9 17,mv 10 18,mv 11 19] [0,1,4,8,9,10,11]
 (.seq (af [mv 20 11,bn 21 .neq 20 0] [0,1,4,8,9,10,11,21]
 (.cond (.t 21) (.seq (af [mv 22 8,no 23 22,mv 24 23,dh 25 11 24 true,RX 26 24 true 91 25,dq 27 24 true (.un .not (.t 26)),pf 28 24 27] [0,1,4,10,11,28]
 (.cond (.t 28) (af [c6 7 (.fn 28 [] []),c6 8 (.bool true)] [0,1,4,7,8]
 (.goto 0))
 .skip))
 (af [i1 29 (.build [.sl true 6 0 [],.int .i64 0,.int .i64 0,.str [],.sl true 4 0 []] []),mv 30 10,mv 31 11,st 5 4 29,mv 5 30,mv 6 31] [4,5,6]
 .ret))
 .skip))
 (af [mv 33 0,lm 34 2 9,c2 35 92 33 34,mv 36 1,c2 37 17 35 36,iV 32 37,ex 38 32 0,ex 39 32 1,ex 40 32 2,i1 12 (.aq [.sl true 6 0 [],.int .i64 0,.int .i64 0,.str [],.sl true 4 0 []]),st 5 12 38,mv 10 39,mv 11 40] [0,1,4,8,10,11,12]
 (.seq (af [mv 41 8,no 42 41,mv 43 42,dh 44 11 43 true,RX 45 43 true 91 44,dq 46 43 true (.un .not (.t 45)),pf 47 43 46] [0,1,4,10,11,12,47]
 (.cond (.t 47) (af [c6 7 (.fn 28 [] []),c6 8 (.bool true)] [0,1,4,7,8]
 (.goto 0))
 .skip))
 (af [lm 48 5 12,mv 49 10,mv 50 11,st 5 4 48,mv 5 49,mv 6 50] [4,5,6]
 .ret)))))))
theorem Mu:aE prog 45 51 [⟨4,false,some (5,true)⟩,⟨5,true,none⟩,⟨6,true,none⟩] AU=true:=by kernel_rfl
theorem Sa:iter (fun last:Bool=>(bif last then some (.inr ())else some (.inl true):Option (Bool⊕Unit))) false=some ():=by
 have r:yF (fun last:Bool=>(bif last then some (.inr ())else some (.inl true):Option (Bool⊕Unit))) 2 false ():=.step (t:=true) rfl (.stop rfl)
 exact r.iter (by decide)
theorem NI{x:II}{s:ab}{p:Int}{t0 t:cF}{w0 e0 w1 w2:Int}{r:dP}{Q:List AV->ab->Prop}(va:iW s x)(h1:pq x=some (t0,w0,e0))(he:(e0 !=0)=true)(ag6:xr e0=some false)(h2:sf x=some (t,w1,0))
 (h3:∀F,oP (adB F x.g t) p=some (r,w2,0))
 (hq:∀s',Sub s s'->Q [.agg [.sl false 6 r.ae.length (flat r.ae),.int .i64 r.an.Kind,.int .i64 r.an.N,.str r.an.S.b,.sl false 4 r.an.L.length (flat r.an.L)],.int .i64 w2,.int .i64 0] s'):FN prog 45 [.ref x.B 0,.int .i64 p] s Q:=by
 refine FO Mu rfl rfl ?_
 rw[AU]
 have k48:pz prog 90=true:=by kernel_rfl
 have k50:pz prog 28=true:=by kernel_rfl
 simp -implicitDefEqProofs only[go_sem,seval]
 refine O7 (kf:=fun _=>True) (fun(last:Bool) U=>U=(⟨[(0,.ref x.B 0),(1,.int .i64 p),(4,.loc [.sl true 6 0 [],.int .i64 0,.int .i64 0,.str [],.sl true 4 0 []]),(7,.fn (bif last then 28 else 90) [] []),(8,.bool last)],[],s⟩:St)) rfl ?_ ⟨(),Sa,trivial⟩
 rintro J last U rfl hb
 cases last with
 |false=>
  simp only[cond_false,aA,gU]at hb
  simp -implicitDefEqProofs only[go_sem,seval,cond_false,k48,true_and]
  refine FE.app (IP va h1) ?_
  simp -implicitDefEqProofs only[go_sem,seval,he,Bool.not_false,Bool.true_eq_false,Bool.false_eq_true,false_implies,true_implies,true_and,and_true]
  refine FE.app (NK ag6) ?_
  simp -implicitDefEqProofs only[go_sem,seval,he,Bool.not_false,Bool.and_true,Bool.true_eq_false,Bool.false_eq_true,false_implies,true_implies,true_and,and_true]
  first|exact hb _ rfl|trace_state
 |true=>
  simp -implicitDefEqProofs only[go_sem,seval,cond_true,k50,true_and]
  refine FE.app (Ng va h2) ?_
  have e00:((0:Int)!=0)=false:=rfl
  simp -implicitDefEqProofs only[go_sem,seval,e00,Bool.not_true,Bool.true_eq_false,Bool.false_eq_true,false_implies,true_implies,true_and,and_true]
  refine OA (t:=t) fun F s' hs' hN=>?_
  simp -implicitDefEqProofs only[go_sem,seval]
  obtain⟨⟨s0,eO⟩,ht⟩:=va
  refine FE.app (th (ZM (eO.sub hs') ht hN) (h3 F)) ?_
  simp -implicitDefEqProofs only[go_sem,seval,Bool.not_true,Bool.false_and,Bool.true_eq_false,Bool.false_eq_true,false_implies,true_implies,true_and,and_true]
  first|exact hq s' hs'|trace_state
end Go.AB
end
section
set_option maxRecDepth 100000
namespace Go.AB
open Go
def Qw:List UInt8:=[37,80,68,70,45,49,46,55,10,49,32,48,32,111,98,106,10,60,60,47,80,97,103,101,115,32,50,32,48,32,82,32,47,84,121,112,101,32,47,67,97,116,97,108,111,103,62,62,10,101,110,100,111,98,106,10,50,32,48,32,111,98,106,10,60,60,47,67,111,117,110,116,32,49,32,47,75,105,100,115,32,91,52,32,48,32,82,93,32,47,84,121,112,101,32,47,80,97,103,101,115,62,62,10,101,110,100,111,98,106,10,51,32,48,32,111,98,106,10,55,10,101,110,100,111,98,106,10,52,32,48,32,111,98,106,10,60,60,47,65,32,51,32,48,32,82,32,47,80,97,114,101,110,116,32,50,32,48,32,82,32,47,84,121,112,101,32,47,80,97,103,101,62,62,10,101,110,100,111,98,106,10,116,114,97,105,108,101,114,10,60,60,47,82,111,111,116,32,49,32,48,32,82,62,62,10]
def oA:ag:=⟨⟨7,0,⟨[]⟩,[⟨5,0,⟨[80,97,103,101,115]⟩,[]⟩,⟨8,2,⟨[]⟩,[]⟩,⟨5,0,⟨[84,121,112,101]⟩,[]⟩,⟨5,0,⟨[67,97,116,97,108,111,103]⟩,[]⟩]⟩,false,⟨[]⟩⟩
def oB:ag:=⟨⟨7,0,⟨[]⟩,[⟨5,0,⟨[67,111,117,110,116]⟩,[]⟩,⟨2,1,⟨[]⟩,[]⟩,⟨5,0,⟨[75,105,100,115]⟩,[]⟩,⟨6,0,⟨[]⟩,[⟨8,4,⟨[]⟩,[]⟩]⟩,⟨5,0,⟨[84,121,112,101]⟩,[]⟩,⟨5,0,⟨[80,97,103,101,115]⟩,[]⟩]⟩,false,⟨[]⟩⟩
def oC:ag:=⟨⟨2,7,⟨[]⟩,[]⟩,false,⟨[]⟩⟩
def oD:ag:=⟨⟨7,0,⟨[]⟩,[⟨5,0,⟨[65]⟩,[]⟩,⟨8,3,⟨[]⟩,[]⟩,⟨5,0,⟨[80,97,114,101,110,116]⟩,[]⟩,⟨8,2,⟨[]⟩,[]⟩,⟨5,0,⟨[84,121,112,101]⟩,[]⟩,⟨5,0,⟨[80,97,103,101]⟩,[]⟩]⟩,false,⟨[]⟩⟩
def D4:aH:=⟨[oA,oB,oC,oD],1⟩
def pA:dP:=⟨[⟨⟨7,0,⟨[]⟩,[⟨5,0,⟨[65]⟩,[]⟩,⟨8,2,⟨[]⟩,[]⟩,⟨5,0,⟨[84,121,112,101]⟩,[]⟩,⟨5,0,⟨[80,97,103,101]⟩,[]⟩]⟩,false,⟨[]⟩⟩,⟨⟨2,7,⟨[]⟩,[]⟩,false,⟨[]⟩⟩],⟨7,0,⟨[]⟩,[]⟩⟩
def Vn:U2:=sk (fun _=>none) 0 (qQ YA 0 Qw)
def T8:l9:=⟨206,[⟨0,206⟩],Vn⟩
def t4:cF:=⟨[9,56,111,128],1⟩
theorem Qn:ql=some D4:=by kernel_rfl
theorem Yt:mX D4=some Qw:=by kernel_rfl
theorem aeH:pd ⟨206,[],fun _=>none⟩ 0 Qw=some (T8,0):=by
 unfold pd
 rw[if_neg (by decide),if_neg (by decide)]
 refine aB (a:=[⟨0,206⟩]) (by kernel_rfl) ?_
 refine aB (a:=Vn) (by kernel_rfl) ?_
 exact aB (a:=[⟨0,206⟩]) (show EP [] ⟨0,bj (0+(Qw.length:Int))⟩=_ by kernel_rfl) rfl
theorem Yv(F:Nat):oP (FK F D4) 0=some (pA,0,0):=by kernel_rfl
theorem aeG:bk (ix pA.ae 0).V ⟨[65]⟩=some (⟨8,2,⟨[]⟩,[]⟩,true):=by kernel_rfl
theorem Yw:mK pA pA=some true:=by kernel_rfl
theorem Yx:oZ pA pA=some true:=by kernel_rfl
theorem Yy:oZ pA ⟨[],⟨0,0,⟨[]⟩,[]⟩⟩=some false:=by kernel_rfl
theorem Yu(B:Nat):pq ⟨B,T8⟩=some (⟨[],0⟩,0,22):=by kernel_rfl
theorem aaL(B:Nat):sf ⟨B,T8⟩=some (t4,0,0):=by kernel_rfl
theorem aaM(F:Nat):oP (adB F T8 t4) 0=some (pA,0,0):=by kernel_rfl
end Go.AB
end
section
set_option maxRecDepth 4000
namespace Go.AB
open Go
open Go.Proofs.Tryz (prog)
attribute[-go_sem] cE da bM cD Nat.add_zero nr bV
def u7:IC:=
 (af [c6 0 (.bool false)] []
 (af [i1 11 (.call 43 []),c1 12 18 11,i1 13 (.call 17 [(.t 12),(.c (.int .i64 0))]),iV 10 13,ex 14 10 0,ex 15 10 1,ex 16 10 2,i1 1 (.aq [.sl true 6 0 [],.int .i64 0,.int .i64 0,.str [],.sl true 4 0 []]),st 5 1 14,mv 2 15,mv 3 16] [1,2,3]
 (af [i1 17 (.call 43 []),c1 18 44 17,mt 4 18] [1,2,3,4]
 (af [mt 20 4,c1 21 29 20,i1 22 (.call 45 [(.t 21),(.c (.int .i64 0))]),iV 19 22,ex 23 19 0,ex 24 19 1,ex 25 19 2,i1 5 (.aq [.sl true 6 0 [],.int .i64 0,.int .i64 0,.str [],.sl true 4 0 []]),st 5 5 23,mv 6 24,mv 7 25] [1,2,3,5,6,7]
 (af [i1 26 (.build iA []),i1 8 (.aq iA),st 4 8 26,c6 9 (.bool false)] [1,2,3,5,6,7,8,9]
 (.seq (af [fa 27 0 1,ld 28 1 27,le 29 0 28,bn 30 .eql 29 2] [1,2,3,5,6,7,8,9,30]
 (.cond (.t 30) (.bN none [fa 32 0 1,ld 33 1 32,i1 34 (.indexAddr Qu (.t 33) (.c (.int .i64 0))),fa 35 0 34,lm 36 4 35,i1 37 (.call 37 [(.t 36),(.c (.str [65]))]),iV 31 37,ex 38 31 0,ex 39 31 1,st 4 8 38,mv 9 39] [1,2,3,5,6,7,8,9])
 .skip))
 (af [mv 40 2,bn 41 .eql 40 0,mv 42 41,dh 43 3 42 true,kS 44 42 true .eql 43 0,pf 45 42 44,mv 46 45,dh 47 6 46 true,kS 48 46 true .eql 47 0,pf 49 46 48,mv 50 49,dh 51 7 50 true,kS 52 50 true .eql 51 0,pf 53 50 52,mv 54 53,dh 55 9 54 true,pf 56 54 55,mv 57 56,fg 58 57 true 0 8,lg 59 57 true 1 58,kS 60 57 true .eql 59 8,pf 61 57 60,mv 62 61,fg 63 62 true 1 8,lg 64 62 true 1 63,kS 65 62 true .eql 64 2,pf 66 62 65,mv 67 66,fg 68 67 true 0 1,lg 69 67 true 1 68,dq 70 67 true (.indexAddr Qu (.t 69) (.c (.int .i64 0))),fg 71 67 true 0 70,fg 72 67 true 3 71,lg 73 67 true 1 72,dq 74 67 true (.len 0 (.t 73)),kS 75 67 true .eql 74 4,pf 76 67 75,mv 77 76,fg 78 77 true 0 1,lg 79 77 true 1 78,dq 80 77 true (.indexAddr Qu (.t 79) (.c (.int .i64 1))),fg 81 77 true 0 80,fg 82 77 true 1 81,lg 83 77 true 1 82,kS 84 77 true .eql 83 7,pf 85 77 84,mv 86 85,dq 87 86 true (.load 5 true (.t 1)),dq 88 86 true (.load 5 true (.t 5)),qd2 89 86 true 21 87 88,pf 90 86 89,mv 91 90,dq 92 91 true (.load 5 true (.t 1)),dq 93 91 true (.load 5 true (.t 5)),qd2 94 91 true 25 92 93,pf 95 91 94,mv 96 95,dq 97 96 true (.load 5 true (.t 1)),dq 98 96 true (.build [.sl false 6 0 [],.int .i64 0,.int .i64 0,.str [],.sl false 4 0 []] []),qd2 99 96 true 25 97 98,dq 100 96 true (.un .not (.t 99)),pf 101 96 100,mv 0 101] [0]
 .ret)))))))
theorem Gt:aE prog 16 102 [⟨0,true,none⟩] u7=true:=by kernel_rfl
theorem p8{s:ab}{Q:List AV->ab->Prop}(hq:∀s',Sub s s'->Q [.bool true] s'):FN prog 16 [] s Q:=by
 refine FO Gt rfl rfl ?_
 rw[u7]
 simp -implicitDefEqProofs only[go_sem,Nat.reduceBEq,Nat.reduceAdd,Nat.reduceMul,Nat.reduceLeDiff,Nat.reduceEqDiff,Nat.reduceBNe,UInt8.reduceToNat,UInt32.reduceToNat]
 refine FE.app (vN Qn) ?_
 simp -implicitDefEqProofs only[go_sem,Nat.reduceBEq,Nat.reduceAdd,Nat.reduceMul,Nat.reduceLeDiff,Nat.reduceEqDiff,Nat.reduceBNe,UInt8.reduceToNat,UInt32.reduceToNat]
 refine zS (as1:=[.agg (YQ D4)]) (by rfl) (yR (d:=D4) fun F db s1 hs1 hF hdb=>?_)
 simp -implicitDefEqProofs only[go_sem,Nat.reduceBEq,Nat.reduceAdd,Nat.reduceMul,Nat.reduceLeDiff,Nat.reduceEqDiff,Nat.reduceBNe,UInt8.reduceToNat,UInt32.reduceToNat]
 refine FE.app (th (f_0:=FK F D4) (LP (by decide) hF hdb) (Yv F)) ?_
 simp -implicitDefEqProofs only[go_sem,Nat.reduceBEq,Nat.reduceAdd,Nat.reduceMul,Nat.reduceLeDiff,Nat.reduceEqDiff,Nat.reduceBNe,UInt8.reduceToNat,UInt32.reduceToNat]
 refine FE.app (vN Qn) ?_
 simp -implicitDefEqProofs only[go_sem,Nat.reduceBEq,Nat.reduceAdd,Nat.reduceMul,Nat.reduceLeDiff,Nat.reduceEqDiff,Nat.reduceBNe,UInt8.reduceToNat,UInt32.reduceToNat]
 refine FE.app (Cg Yt) ?_
 simp -implicitDefEqProofs only[go_sem,Nat.reduceBEq,Nat.reduceAdd,Nat.reduceMul,Nat.reduceLeDiff,Nat.reduceEqDiff,Nat.reduceBNe,UInt8.reduceToNat,UInt32.reduceToNat]
 refine zS (as1:=[.sl false 1 Qw.length (flat Qw)]) (by rfl) (Em (l:=Qw) (by decide) ⟨(T8,0),aeH,fun B s2 eO=>?_⟩)
 simp -implicitDefEqProofs only[go_sem,Nat.reduceBEq,Nat.reduceAdd,Nat.reduceMul,Nat.reduceLeDiff,Nat.reduceEqDiff,Nat.reduceBNe,UInt8.reduceToNat,UInt32.reduceToNat]
 refine NI (x:=⟨B,T8⟩) ⟨⟨s1,eO⟩,(by decide:(206:Int)<=2147483647)⟩ (Yu B) rfl (by kernel_rfl) (aaL B) aaM fun s3 hs3=>?_
 have eD:Sub s s3:=fun b o hb=>hs3 b o (eO.1 b o (hs1 b o hb))
 have p2:(pA.ae.length:Int)=2:=rfl
 have e2:((2:Int)==2)=true:=rfl
 have e0:((0:Int)==0)=true:=rfl
 simp -implicitDefEqProofs only[go_sem,Nat.reduceBEq,Nat.reduceAdd,Nat.reduceMul,Nat.reduceLeDiff,Nat.reduceEqDiff,Nat.reduceBNe,UInt8.reduceToNat,UInt32.reduceToNat,p2,e2,e0,Bool.true_eq_false,Bool.false_eq_true,false_implies,true_implies,true_and,and_true]
 have abK:pad [.int .i64 0,.int .i64 0,.str [],.sl false 4 0 [],.bool false,.str []] (views (AB.sub (flat pA.ae) 0 6))=[.int .i64 (ix pA.ae 0).V.Kind,.int .i64 (ix pA.ae 0).V.N,.str (ix pA.ae 0).V.S.b,.sl false 4 (ix pA.ae 0).V.L.length (flat (ix pA.ae 0).V.L),.bool (ix pA.ae 0).Stream,.str (ix pA.ae 0).Data.b]:=lQ pA.ae 0
 have ah3:pad [.int .i64 0,.int .i64 0,.str [],.sl false 4 0 [],.bool false,.str []] (views (AB.sub (flat pA.ae) 6 6))=[.int .i64 (ix pA.ae 1).V.Kind,.int .i64 (ix pA.ae 1).V.N,.str (ix pA.ae 1).V.S.b,.sl false 4 (ix pA.ae 1).V.L.length (flat (ix pA.ae 1).V.L),.bool (ix pA.ae 1).Stream,.str (ix pA.ae 1).Data.b]:=lQ pA.ae 1
 have i2:(0:Int)<=0/\(0:Int)<2:=by decide
 have i3:(0:Int)<=1/\(1:Int)<2:=by decide
 have f1:(((ix pA.ae 0).V.L.length:Int)==4)=true:=rfl
 have f2:((ix pA.ae 1).V.N==7)=true:=rfl
 have f3:((8:Int)==8)=true:=rfl
 refine⟨i2,?_⟩
 simp -implicitDefEqProofs only[go_sem,Nat.reduceBEq,Nat.reduceAdd,Nat.reduceMul,Nat.reduceLeDiff,Nat.reduceEqDiff,Nat.reduceBNe,UInt8.reduceToNat,UInt32.reduceToNat,abK]
 refine FE.app (ft aeG) ?_
 simp -implicitDefEqProofs only[go_sem,Nat.reduceBEq,Nat.reduceAdd,Nat.reduceMul,Nat.reduceLeDiff,Nat.reduceEqDiff,Nat.reduceBNe,UInt8.reduceToNat,UInt32.reduceToNat,p2,abK,ah3,e0,e2,f1,f2,f3,Bool.true_eq_false,Bool.false_eq_true,false_implies,true_implies,true_and,and_true,Bool.and_self]
 refine⟨i2,by decide,FE.app (yA Yw) ?_⟩
 simp -implicitDefEqProofs only[go_sem,Nat.reduceBEq,Nat.reduceAdd,Nat.reduceMul,Nat.reduceLeDiff,Nat.reduceEqDiff,Nat.reduceBNe,UInt8.reduceToNat,UInt32.reduceToNat,Bool.true_eq_false,Bool.false_eq_true,false_implies,true_implies,true_and,and_true,Bool.and_self]
 refine FE.app (Bu Yx) ?_
 simp -implicitDefEqProofs only[go_sem,Nat.reduceBEq,Nat.reduceAdd,Nat.reduceMul,Nat.reduceLeDiff,Nat.reduceEqDiff,Nat.reduceBNe,UInt8.reduceToNat,UInt32.reduceToNat,Bool.true_eq_false,Bool.false_eq_true,false_implies,true_implies,true_and,and_true,Bool.and_self]
 refine zS (as1:=[.agg [.sl false 6 pA.ae.length (flat pA.ae),.int .i64 pA.an.Kind,.int .i64 pA.an.N,.str pA.an.S.b,.sl false 4 pA.an.L.length (flat pA.an.L)],.agg [.sl false 6 0 (flat ([]:List ag)),.int .i64 0,.int .i64 0,.str [],.sl false 4 0 (flat ([]:List aa))]]) (by rfl) (FE.app (Bu (b_1:=⟨[],⟨0,0,⟨[]⟩,[]⟩⟩) Yy) ?_)
 simp -implicitDefEqProofs only[go_sem,Nat.reduceBEq,Nat.reduceAdd,Nat.reduceMul,Nat.reduceLeDiff,Nat.reduceEqDiff,Nat.reduceBNe,UInt8.reduceToNat,UInt32.reduceToNat,Bool.true_eq_false,Bool.false_eq_true,false_implies,true_implies,true_and,and_true,Bool.and_self,Bool.not_false]
 exact hq s3 eD
end Go.AB
end
section
set_option maxRecDepth 4000
namespace Go.AB
open Go
open Go.Proofs.Tryz (prog)
attribute[-go_sem] cE da bM cD Nat.add_zero nr bV
def eu:Nat->aa->Option (Bool)
 |0,_=>none
 |fuel+1,v_0=>
  yp (
   jG (
    iter (fun(k3:Int)=>
     if decide (k3<(v_0.L.length:Int))then
      aG (0<=k3/\k3<v_0.L.length)<|
      aW (eu fuel (ix v_0.L k3)) fun r6=>
      if !r6 then
       some (.inr (.inr false))
      else
       some (.inl (bj (k3+1)))
     else
      some (.inr (.inl ()))) 0) (fun(_:Unit)=>
    some (.inl ()))
   (fun(t5:Bool)=>some (.inr t5))) (fun(_:Unit)=>
   some (decide ((v_0.S.b.length:Int)<=300)))
  (fun(t2:Bool)=>some t2)
def vq:IC:=
 (af [i1 1 (.dc 4 (.t 0)),c6 2 (.bool false)] [1]
 (.join [(1,false)] (af [mi 3 0] [1,3]
 (.block 0 (.loop [(1,false),(3,false)] (.seq (af [mv 4 3,fa 5 3 1,ld 6 1 5,le 7 0 6,bt 8 .lss 4 7] [1,3,8]
 (.cond (.t 8) .skip
 (.exit 0)))
 (.seq (.block 1 (af [fa 11 3 1,ld 12 1 11,mv 13 3,ia 14 qT 12 13,lm 15 4 14,c1 16 83 15,no 17 16] [1,3,17]
 (.cond (.t 17) (af [c6 2 (.bool false)] [2]
 .ret)
 .skip)))
 (.bN none [mv 9 3,bn 10 .add 9 1,mv 3 10] [1,3]))))))
 (af [fa 18 2 1,ld 19 1 18,le 20 1 19,bn 21 .leq 20 300,mv 2 21] [2]
 .ret)))
theorem GH:aE prog 83 22 [⟨2,true,none⟩] vq=true:=by kernel_rfl
theorem HI{fuel:Nat}:∀{v_0:aa}{s:ab}{Q:List AV->ab->Prop},ok (eu fuel v_0) (fun r=>Q [.bool r] s)->FN prog 83 [oV v_0] s Q:=by
 induction fuel with
 |zero=>intros;rename_i h;rw[eu]at h;exact absurd h (by rw[ok_none];exact fun h=>h)
 |succ fuel ih=>
 have L6:∀{v_0:aa}{s:ab}{r:Bool},eu fuel v_0=some r->FE prog 83 [oV v_0] s [.bool r] s:=fun h=>ih ⟨_,h,rfl,rfl⟩
 intro v_0 s Q
 intro h
 refine FO GH rfl rfl ?_
 revert h
 rw[vq,eu]
 repeat'(first
  |(with_reducible first|exact cW|refine bK ?_ ?_|refine de ?_|refine ak (fun _(h:eu fuel (ix v_0.L k3)=some _)=>L6 h) (fun r6=>?_))
  |((with_reducible refine bF (fun(k3:Int)=>⟨[(1,.loc [.int .i64 v_0.Kind,.int .i64 v_0.N,.str v_0.S.b,sF 4 v_0.L]),(3,.int .i64 k3)],[],s⟩) ?_ ?_);(first|exact rfl|simp -implicitDefEqProofs only[go_sem,seval]);rintro J k3)
  |((with_reducible refine fh (fun(_:Unit)=>⟨[(1,.loc [.int .i64 v_0.Kind,.int .i64 v_0.N,.str v_0.S.b,sF 4 v_0.L])],[],s⟩) (fun J=>?_) ?_);rotate_left;rintro _)
  |simp -implicitDefEqProofs only[go_sem,seval])
theorem HH{fuel:Nat}{v_0}{s:ab}{r:Bool}(h:eu fuel v_0=some r):FE prog 83 [oV v_0] s [.bool r] s:=HI ⟨r,h,rfl,rfl⟩
def fD:Nat->aa->Int->Option (Int)
 |0,_,_=>none
 |fuel+1,v_0,pK=>
  jn (
   iter (fun((vO,k3):Int×Int)=>
    if(decide (k3<(v_0.L.length:Int)))&&(decide (vO>=0))then
     aG (0<=k3/\k3<v_0.L.length)<|
     aW (fD fuel (ix v_0.L k3) vO) fun r5=>
     some (.inl (r5,bj (k3+1)))
    else
     some (.inr vO)) (bj (pK -1),0)) fun(S5:Int)=>
  some S5
def AF:IC:=
 (af [i1 2 (.dc 4 (.t 0)),mi 4 0] [1,2]
 (af [mv 6 1,bn 7 .sub 6 1,mv 1 7] [1,2]
 (.join [(1,false)] (af [mi 5 0] [1,2,5]
 (.block 0 (.loop [(1,false),(2,false),(5,false)] (.seq (af [mv 8 5,fa 9 3 2,ld 10 1 9,le 11 0 10,bt 12 .lss 8 11,mv 13 12,dh 14 1 13 true,kS 15 13 true .geq 14 0,pf 16 13 15] [1,2,5,16]
 (.cond (.t 16) .skip
 (.exit 0)))
 (.seq (.block 1 (.bN none [fa 19 3 2,ld 20 1 19,mv 21 5,ia 22 qT 20 21,lm 23 4 22,mv 24 1,c2 25 22 23 24,mv 1 25] [1,2,5]))
 (.bN none [mv 17 5,bn 18 .add 17 1,mv 5 18] [1,2,5]))))))
 (af [mv 26 1,mv 4 26] [4]
 .ret))))
theorem Mg:aE prog 22 27 [⟨4,true,none⟩] AF=true:=by kernel_rfl
theorem MY{fuel:Nat}:∀{v_0:aa}{pK:Int}{s:ab}{Q:List AV->ab->Prop},ok (fD fuel v_0 pK) (fun r=>Q [.int .i64 r] s)->FN prog 22 [oV v_0,.int .i64 pK] s Q:=by
 induction fuel with
 |zero=>intros;rename_i h;rw[fD]at h;exact absurd h (by rw[ok_none];exact fun h=>h)
 |succ fuel ih=>
 have L6:∀{v_0:aa}{pK:Int}{s:ab}{r:Int},fD fuel v_0 pK=some r->FE prog 22 [oV v_0,.int .i64 pK] s [.int .i64 r] s:=fun h=>ih ⟨_,h,rfl,rfl⟩
 intro v_0 pK s Q
 intro h
 refine FO Mg rfl rfl ?_
 revert h
 rw[AF,fD]
 repeat'(first
  |(with_reducible first|exact cW|refine bK ?_ ?_|refine de ?_|refine ak (fun _(h:fD fuel (ix v_0.L k3) vO=some _)=>L6 h) (fun r5=>?_))
  |((with_reducible refine bF (fun((vO,k3):Int×Int)=>⟨[(1,.int .i64 vO),(2,.loc [.int .i64 v_0.Kind,.int .i64 v_0.N,.str v_0.S.b,sF 4 v_0.L]),(5,.int .i64 k3)],[],s⟩) ?_ ?_);(first|exact rfl|simp -implicitDefEqProofs only[go_sem,seval]);rintro J ⟨vO,k3⟩)
  |((with_reducible refine dA (fun(S5:Int)=>⟨[(1,.int .i64 S5)],[],s⟩) (fun J=>?_) ?_);rotate_left;rintro S5)
  |simp -implicitDefEqProofs only[go_sem,seval])
theorem MX{fuel:Nat}{v_0 pK}{s:ab}{r:Int}(h:fD fuel v_0 pK=some r):FE prog 22 [oV v_0,.int .i64 pK] s [.int .i64 r] s:=MY ⟨r,h,rfl,rfl⟩
def kU(o_0:ag)(uN:Int):Option (Bool):=
 aW (fD lf o_0.V 300) fun r1=>
 aW (l8 ((decide (r1>=0))&&(decide ((o_0.Data.b.length:Int)<=uN))) false (eu lf o_0.V)) fun r2=>
 some (((decide (r1>=0))&&(decide ((o_0.Data.b.length:Int)<=uN)))&&r2)
def AH:IC:=
 (af [i1 2 (.dc 6 (.t 0)),c6 4 (.bool false)] [1,2]
 (.seq (.bN (some 15) [fa 5 0 2,lm 6 4 5,i1 7 (.call 22 [(.t 6),(.c (.int .i64 300))]),bn 8 .geq 7 0,mv 9 8,fg 10 9 true 5 2,lg 11 9 true 1 10,dq 12 9 true (.len 1 (.t 11)),dh 13 1 9 true,sY 14 9 true .leq 12 13,pf 15 9 14,mv 16 15,fg 17 16 true 0 2,dq 18 16 true (.load 4 true (.t 17)),RX 19 16 true 83 18,pf 20 16 19,mv 4 20] [4])
 .ret))
theorem Mi:aE prog 42 21 [⟨4,true,none⟩] AH=true:=by kernel_rfl
theorem M3{o_0 uN}{s:ab}{Q:List AV->ab->Prop}:ok (kU o_0 uN) (fun r=>Q [.bool r] s)->FN prog 42 [.agg [.int .i64 o_0.V.Kind,.int .i64 o_0.V.N,.str o_0.V.S.b,sF 4 o_0.V.L,.bool o_0.Stream,.str o_0.Data.b],.int .i64 uN] s Q:=by
 intro h
 refine FO Mi rfl rfl ?_
 revert h
 rw[AH,kU]
 repeat'(first
  |(with_reducible first|refine b6 (fun _(h:fD lf o_0.V 300=some _)=>MX h) (fun _=>rfl) (fun r1=>?_)|refine fC rfl (fun _(h:eu lf o_0.V=some _)=>HH h) (fun _=>rfl) (fun r2=>?_))
  |simp -implicitDefEqProofs only[go_sem,seval])
theorem M1{o_0 uN}{s:ab}{r:Bool}(h:kU o_0 uN=some r):FE prog 42 [.agg [.int .i64 o_0.V.Kind,.int .i64 o_0.V.N,.str o_0.V.S.b,sF 4 o_0.V.L,.bool o_0.Stream,.str o_0.Data.b],.int .i64 uN] s [.bool r] s:=M3 ⟨r,h,rfl,rfl⟩
def sc(l_0:(List ag))(zq:Int):Option (Bool):=
 if decide ((l_0.length:Int)>zq)then
  some false
 else
  yp (
   jG (
    iter (fun(k2:Int)=>
     if decide (k2<(l_0.length:Int))then
      aG (0<=k2/\k2<l_0.length)<|
      aW (kU (ix l_0 k2) 300) fun r4=>
      if !r4 then
       some (.inr (.inr false))
      else
       some (.inl (bj (k2+1)))
     else
      some (.inr (.inl ()))) 0) (fun(_:Unit)=>
    some (.inl ()))
   (fun(t3:Bool)=>some (.inr t3))) (fun(_:Unit)=>
   some true)
  (fun(t1:Bool)=>some t1)
def AI:IC:=
 (af [c6 4 (.bool false)] [0,1]
 (.seq (af [mv 6 0,le 7 0 6,mv 8 1,bt 9 .gtr 7 8] [0,9]
 (.cond (.t 9) (af [c6 4 (.bool false)] [4]
 .ret)
 .skip))
 (.join [] (af [mi 5 0] [0,5]
 (.block 0 (.loop [(0,true),(5,false)] (.seq (af [mv 10 5,mv 11 0,le 12 0 11,bt 13 .lss 10 12] [0,5,13]
 (.cond (.t 13) .skip
 (.exit 0)))
 (.seq (.block 1 (af [mv 16 0,mv 17 5,ia 18 Qu 16 17,lm 19 6 18,i1 20 (.call 42 [(.t 19),(.c (.int .i64 300))]),no 21 20] [0,5,21]
 (.cond (.t 21) (af [c6 4 (.bool false)] [4]
 .ret)
 .skip)))
 (.bN none [mv 14 5,bn 15 .add 14 1,mv 5 15] [0,5]))))))
 (af [c6 4 (.bool true)] [4]
 .ret))))
theorem Mj:aE prog 15 22 [⟨4,true,none⟩] AI=true:=by kernel_rfl
theorem M5{l_0 zq}{s:ab}{Q:List AV->ab->Prop}:ok (sc l_0 zq) (fun r=>Q [.bool r] s)->FN prog 15 [sF 6 l_0,.int .i64 zq] s Q:=by
 intro h
 refine FO Mj rfl rfl ?_
 revert h
 rw[AI,sc]
 repeat'(first
  |(with_reducible first|exact cW|refine bK ?_ ?_|refine de ?_|refine ak (fun _(h:kU (ix l_0 k2) 300=some _)=>M1 h) (fun r4=>?_))
  |((with_reducible refine bF (fun(k2:Int)=>⟨[(0,sF 6 l_0),(5,.int .i64 k2)],[],s⟩) ?_ ?_);(first|exact rfl|simp -implicitDefEqProofs only[go_sem,seval]);rintro J k2)
  |((with_reducible refine fh (fun(_:Unit)=>⟨[],[],s⟩) (fun J=>?_) ?_);rotate_left;rintro _)
  |simp -implicitDefEqProofs only[go_sem,seval])
theorem M4{l_0 zq}{s:ab}{r:Bool}(h:sc l_0 zq=some r):FE prog 15 [sF 6 l_0,.int .i64 zq] s [.bool r] s:=M5 ⟨r,h,rfl,rfl⟩
def oU:Nat->aa->(List Int)->Option (aa)
 |0,_,_=>none
 |fuel+1,v_0,to_1=>
  if v_0.Kind==8 then
   if(decide (v_0.N<1))||(decide (v_0.N>(to_1.length:Int)))then
    some (aa.mk 0 0 (aw.mk []) ([]:List aa))
   else
    aG (0<=bj (v_0.N -1)/\bj (v_0.N -1)<to_1.length)<|
    some (aa.mk 8 (ix to_1 (bj (v_0.N -1))) (aw.mk []) ([]:List aa))
  else
   jn (
    aW (eR v_0) fun r3=>
    if r3 then
     jn (
      iter (fun((l7,k8):(List aa)×Int)=>
       if decide (k8<(v_0.L.length:Int))then
        aG (0<=k8/\k8<v_0.L.length)<|
        aW (oU fuel (ix v_0.L k8) to_1) fun r12=>
        aG ((l7.length+[r12].length)*56<=room)<|
        some (.inl (l7++[r12],bj (k8+1)))
       else
        some (.inr l7)) (([]:List aa),0)) fun(l6:(List aa))=>
     some (aa.mk v_0.Kind v_0.N v_0.S l6)
    else
     some v_0) fun(v1:aa)=>
   some v1
end Go.AB
end
section
set_option linter.unusedSimpArgs false
namespace Go.AB
open Go
theorem ka(v:aa)(key:aw)(h:(v.L.length:Int)<=4611686018427387904):∃r,bX v key=some r/\-1<=r/\r<v.L.length:=by
 by_cases hk:(v.Kind !=7)=true
 ·refine⟨-1,?_,by omega,by omega⟩
  unfold bX;rw[if_pos hk]
 ·have hit:∃o:Unit⊕Int,iter (fun(i2:Int)=>
   if decide (i2<(v.L.length:Int))then
    aG (0<=i2/\i2<v.L.length)<|
    aG ((((ix v.L i2).Kind)==5)=true->0<=i2/\i2<v.L.length)<|
    if(((ix v.L i2).Kind)==5)&&(((ix v.L i2).S).b==key.b)then
     some (.inr (.inr i2))
    else
     some (.inl (bj (i2+2)))
   else
    some (.inr (.inl ()))) 0=some o/\(∀r,o=.inr r->0<=r/\r<v.L.length):=by
   refine nE (fun i=>0<=i) (fun i=>((v.L.length:Int) -i).toNat) _ (Int.le_refl 0) (by omega) fun i hi=>?_
   by_cases hl:i<(v.L.length:Int)
   ·rw[if_pos (by simpa using hl),dM ⟨hi,hl⟩,dM (fun _=>⟨hi,hl⟩)]
    split
    ·refine⟨_,rfl,?_⟩
     rintro r e;injection e with e;subst e;exact⟨hi,hl⟩
    ·refine⟨_,rfl,?_⟩
     show 0<=bj (i+2)/\((v.L.length:Int) -bj (i+2)).toNat<((v.L.length:Int) -i).toNat
     rw[aI (by omega) (by omega)]
     exact⟨by omega,by omega⟩
   ·rw[if_neg (by simpa using hl)]
    exact⟨_,rfl,fun r e=>by cases e⟩
  obtain⟨o,h1,h2⟩:=hit
  unfold bX
  rw[if_neg hk,h1]
  cases o with
  |inl u=>exact⟨-1,rfl,by omega,by omega⟩
  |inr r=>exact⟨r,rfl,by have:=h2 r rfl;omega,by have:=h2 r rfl;omega⟩
theorem yx(v:aa)(key:aw):zB v key=bX v key:=by
 unfold zB bX
 by_cases hk:(v.Kind==7)=true
 ·have hk':(v.Kind !=7)=false:=by rw[bne,hk];rfl
  simp only[hk,hk',Bool.true_and,Bool.false_eq_true,if_false]
 ·have hk2:(v.Kind==7)=false:=by simpa using hk
  have hk':(v.Kind !=7)=true:=by rw[bne,hk2];rfl
  rw[iter_eq (o:=.inl ()) (fun _=>True) (fun _=>0) trivial (by decide) fun i _=>.inr (by simp only[hk2,Bool.false_and,Bool.false_eq_true,if_false])]
  simp only[hk',if_true]
  rfl
theorem Ih(v:aa)(key:aw)(h:(v.L.length:Int)<=4611686018427387904):∃r,bk v key=some r:=by
 obtain⟨r,h1,h2,h3⟩:=ka v key h
 unfold bk
 rw[h1,a8]
 by_cases h0:r<0
 ·rw[if_pos (by simpa using h0)];exact⟨_,rfl⟩
 ·rw[if_neg (by simpa using h0),aI (by omega) (by omega)]
  by_cases h4:(r+1==(v.L.length:Int))=true
  ·rw[if_pos h4];exact⟨_,rfl⟩
  ·rw[if_neg h4,dM (by have:¬r+1=(v.L.length:Int):=by simpa using h4
                       exact⟨by omega,by omega⟩)]
   exact⟨_,rfl⟩
end Go.AB
end
section
set_option linter.unusedSimpArgs false
namespace Go.AB
open Go
def W:Nat->aa->Prop
 |0,_=>False
 |n+1,v=>v.L.length<=n/\∀x∈v.L,W n x
theorem uC:∀(n m:Nat)(v:aa),n<=m->W n v->W m v
 |0,_,_,_,h=>h.elim
 |n+1,0,_,hm,_=>by omega
 |n+1,m+1,v,hm,h=>⟨by have:=h.1;omega,fun x hx=>uC n m x (by omega) (h.2 x hx)⟩
def mc:Nat->aa->Nat
 |0,_=>0
 |n+1,v=>1+(v.L.map (mc n)).sum
theorem Oc:∀(n m:Nat)(v:aa),n<=m->W n v->mc m v=mc n v
 |0,_,_,_,h=>h.elim
 |n+1,0,_,hm,_=>by omega
 |n+1,m+1,v,hm,h=>by
  show 1+(v.L.map (mc m)).sum=1+(v.L.map (mc n)).sum
  rw[List.map_congr_left fun x hx=>Oc n m x (by omega) (h.2 x hx)]
theorem few(fuel:Nat):∀(v:aa)(left:Int),0<=left->left<fuel->left<=4611686018427387904->∃r,fD fuel v left=some r/\-1<=r/\r<left/\(0<=r->W left.toNat v/\(mc left.toNat v:Int)<=left -r):=by
 induction fuel with
 |zero=>intro v left h0 h1;omega
 |succ fuel ih=>
  intro v left h0 h1 h2
  rw[fD]
  have hit:∃o:Int,iter (fun((vO,k3):Int×Int)=>
   if(decide (k3<(v.L.length:Int)))&&(decide (vO>=0))then
    aG (0<=k3/\k3<v.L.length)<|
    aW (fD fuel (ix v.L k3) vO) fun r5=>
    some (.inl (r5,bj (k3+1)))
   else
    some (.inr vO)) (bj (left -1),0)=some o/\(-1<=o/\o<left/\(0<=o->W left.toNat v/\(mc left.toNat v:Int)<=left -o)):=by
   rw[aI (by omega) (by omega)]
   refine nE (fun s=>0<=s.2/\-1<=s.1/\s.2+s.1<=left -1/\s.2<=(v.L.length:Int)/\(0<=s.1->(∀j:Nat,(j:Int)<s.2->W (left -1).toNat (ix v.L (j:Int)))/\(((v.L.take s.2.toNat).map (mc (left -1).toNat)).sum:Int)<=left -1 -s.1)) (fun s=>(s.1+1).toNat) _ ?h (by show(left -1+1).toNat<_;omega) ?s
   case h=>exact⟨Int.le_refl 0,by show -1<=left -1;omega,by show 0+(left -1)<=left -1;omega,by show(0:Int)<=_;omega,fun _=>⟨fun j hj=>by have:(j:Int)<0:=hj;omega,by show(0:Int)<=left -1 -(left -1);omega⟩⟩
   case s=>
    intro s hs
    obtain⟨l2,k⟩:=s
    obtain⟨i1,i2,i3,i4,i5⟩:=hs
    simp only at i1 i2 i3 i4 i5
    by_cases hc:k<(v.L.length:Int)/\0<=l2
    ·have e:((decide (k<(v.L.length:Int)))&&(decide (l2>=0)))=true:=by simp;exact⟨hc.1,hc.2⟩
     obtain⟨r,h3,h4,h5,h6⟩:=ih (ix v.L k) l2 hc.2 (by omega) (by omega)
     simp only[e,if_true]
     rw[dM ⟨i1,hc.1⟩,h3,a8]
     refine⟨_,rfl,?_⟩
     rw[aI (by omega) (by omega)]
     refine⟨⟨by show 0<=k+1;omega,h4,by show k+1+r<=left -1;omega,by show k+1<=_;omega,fun hr=>?_⟩,by show(r+1).toNat<(l2+1).toNat;omega⟩
     have hr':0<=r:=hr
     obtain⟨i6,i7⟩:=i5 hc.2
     obtain⟨h7,h8⟩:=h6 hr'
     refine⟨fun j hj=>?_,?_⟩
     ·have hj':(j:Int)<k+1:=hj
      by_cases hjk:(j:Int)<k
      ·exact i6 j hjk
      ·rw[show(j:Int)=k by omega]
       exact uC _ _ _ (by omega) h7
     ·have hk:k.toNat<v.L.length:=by omega
      show(((v.L.take (k+1).toNat).map (mc (left -1).toNat)).sum:Int)<=left -1 -r
      rw[show(k+1).toNat=k.toNat+1 by omega,List.take_succ_eq_append_getElem hk,List.map_append,List.sum_append]
      have e2:ix v.L k=v.L[k.toNat]:=kK hk
      rw[e2]at h7 h8
      have e3:=Oc l2.toNat (left -1).toNat _ (by omega) h7
      simp only[List.map_cons,List.map_nil,List.sum_cons,List.sum_nil,Nat.add_zero]
      rw[e3]
      push_cast
      omega
    ·have e:((decide (k<(v.L.length:Int)))&&(decide (l2>=0)))=false:=by
      cases h:((decide (k<(v.L.length:Int)))&&(decide (l2>=0)))with
      |false=>rfl
      |true=>simp at h;exact(hc ⟨h.1,h.2⟩).elim
     simp only[e,Bool.false_eq_true,if_false]
     refine⟨_,rfl,i2,by show l2<left;omega,fun hl=>?_⟩
     have hl':0<=l2:=hl
     have hk:k=(v.L.length:Int):=by
      by_cases h:k<(v.L.length:Int)
      ·exact(hc ⟨h,hl'⟩).elim
      ·omega
     obtain⟨m,hm⟩:∃m,left.toNat=m+1:=⟨left.toNat -1,by omega⟩
     rw[hm]
     obtain⟨i6,i7⟩:=i5 hl'
     have em:(left -1).toNat=m:=by omega
     rw[em]at i6 i7
     refine⟨⟨by omega,fun x hx=>?_⟩,?_⟩
     ·obtain⟨j,hj,rfl⟩:=List.getElem_of_mem hx
      have:=i6 j (by omega)
      rw[cQ hj]at this
      exact this
     ·rw[hk,show((v.L.length:Int)).toNat=v.L.length from rfl,List.take_length]at i7
      show((1+(v.L.map (mc m)).sum:Nat):Int)<=left -l2
      push_cast
      omega
  obtain⟨o,h3,h4⟩:=hit
  rw[h3]
  exact⟨o,rfl,h4⟩
theorem texts:∀(n:Nat)(v:aa)(fuel:Nat),W n v->n<=fuel->n<=4611686018427387904->∃b,eu fuel v=some b
 |0,_,_,h,_,_=>h.elim
 |n+1,_,0,_,h,_=>by omega
 |n+1,v,fuel+1,h,hf,hn=>by
  rw[eu]
  have hit:∃o:Unit⊕Bool,iter (fun(k3:Int)=>
   if decide (k3<(v.L.length:Int))then
    aG (0<=k3/\k3<v.L.length)<|
    aW (eu fuel (ix v.L k3)) fun r6=>
    if !r6 then
     some (.inr (.inr false))
    else
     some (.inl (bj (k3+1)))
   else
    some (.inr (.inl ()))) 0=some o/\True:=by
   refine nE (fun k=>0<=k) (fun k=>((v.L.length:Int) -k).toNat) _ (Int.le_refl 0) (by have:=h.1;omega) fun k hk=>?_
   by_cases hl:k<(v.L.length:Int)
   ·rw[if_pos (by simpa using hl),dM ⟨hk,hl⟩]
    obtain⟨b,hb⟩:=texts n (ix v.L k) fuel (by
     rw[kK (by omega)]
     exact h.2 _ (List.getElem_mem _)) (by omega) (by omega)
    rw[hb,a8]
    cases b with
    |false=>exact⟨_,rfl,trivial⟩
    |true=>
     refine⟨_,rfl,?_⟩
     have:=h.1
     show 0<=bj (k+1)/\((v.L.length:Int) -bj (k+1)).toNat<((v.L.length:Int) -k).toNat
     rw[aI (by omega) (by omega)]
     exact⟨by omega,by omega⟩
   ·rw[if_neg (by simpa using hl)]
    exact⟨_,rfl,trivial⟩
  obtain⟨o,h1,_⟩:=hit
  rw[h1]
  cases o with
  |inl u=>exact⟨_,rfl⟩
  |inr b=>exact⟨_,rfl⟩
end Go.AB
end
section
set_option linter.unusedSimpArgs false
namespace Go.AB
open Go
def dC(l:List Int)(n:Int):List Int:=if l.contains n then l else l++[n]
theorem NP(l:List Int)(n:Int):(dC l n).length<=l.length+1:=by unfold dC;split<;>simp
theorem Fk{l:List Int}(h:l.Nodup)(n:Int):(dC l n).Nodup:=by
 unfold dC
 split
 ·exact h
 ·rename_i hc
  rw[List.nodup_append]
  refine⟨h,List.nodup_cons.2 ⟨by simp,List.nodup_nil⟩,fun a ha b hb e=>?_⟩
  rw[List.mem_singleton]at hb
  subst hb;subst e
  exact hc (by simpa using ha)
def cT:Nat->aa->List Int->List Int
 |0,_,l=>l
 |n+1,v,l=>
  if v.Kind==8 then dC l v.N
  else if(v.Kind==6)||(v.Kind==7)then v.L.foldl (fun l x=>cT n x l) l else l
theorem w7{f:List Int->aa->List Int}{g:aa->Nat}(h:∀l x,(f l x).length<=l.length+g x):∀(L:List aa)(l:List Int),(L.foldl f l).length<=l.length+(L.map g).sum
 |[],l=>by simp
 |x::L,l=>by
  have h1:=w7 h L (f l x)
  have h2:=h l x
  simp only[List.foldl_cons,List.map_cons,List.sum_cons]
  omega
theorem xi:∀(n:Nat)(v:aa)(l:List Int),(cT n v l).length<=l.length+mc n v
 |0,v,l=>by simp[cT]
 |n+1,v,l=>by
  have h0:=NP l v.N
  have h1:=w7 (f:=fun l x=>cT n x l) (g:=mc n) (fun l x=>xi n x l) v.L l
  have e:mc (n+1) v=1+(v.L.map (mc n)).sum:=rfl
  unfold cT
  split
  ·omega
  ·split<;>omega
theorem Da{f:List Int->aa->List Int}(h:∀l x,l.Nodup->(f l x).Nodup):∀(L:List aa)(l:List Int),l.Nodup->(L.foldl f l).Nodup
 |[],l,hl=>hl
 |x::L,l,hl=>Da h L _ (h l x hl)
theorem nQ:∀(n:Nat)(v:aa)(l:List Int),l.Nodup->(cT n v l).Nodup
 |0,v,l,h=>h
 |n+1,v,l,h=>by
  unfold cT
  split
  ·exact Fk h _
  ·split
   ·exact Da (fun l x=>nQ n x l) _ _ h
   ·exact h
theorem Qg(L:List aa)(g:aa->Nat)(k:Nat)(hk:k<L.length):((L.take k).map g).sum+g L[k]<=(L.map g).sum:=by
 have e:L.map g=(L.take k).map g++(L.drop k).map g:=by rw[<-List.map_append,List.take_append_drop]
 rw[e,List.sum_append,List.drop_eq_getElem_cons hk,List.map_cons,List.sum_cons]
 omega
theorem has_eq(l:List Int)(n:Int)(hb:l.length<4611686018427387904):mJ l n=some (l.contains n):=by
 unfold mJ
 have step:∀k(hk:k<l.length),ix l (k:Int)=l[k]:=fun k hk=>kK (i:=(k:Int)) hk
 cases h:l.findIdx? (·==n)with
 |none=>
  rw[List.findIdx?_eq_none_iff]at h
  have hc:l.contains n=false:=by
   rw[List.contains_eq_mem]
   exact decide_eq_false fun hm=>by have:=h n hm;simp at this
  rw[hc]
  refine fN (z:=.inl ()) (fm (z:=.inl ()) (eP l.length hb (fun k hk=>?_) ?_) rfl) rfl
  ·refine aU (decide_eq_true (by omega)) (az ⟨by omega,by omega⟩ ?_)
   rw[step k hk,if_neg (by rw[h _ (List.getElem_mem hk)];simp)]
  ·exact aF (by simp) rfl
 |some i=>
  rw[List.findIdx?_eq_some_iff_getElem]at h
  obtain⟨hi,h1,h2⟩:=h
  have hc:l.contains n=true:=by
   rw[List.contains_eq_mem]
   exact decide_eq_true (by rw[<-eq_of_beq h1];exact List.getElem_mem hi)
  rw[hc]
  refine fN (z:=.inr true) (fm (z:=.inr true) (eP i (by omega) (fun k hk=>?_) ?_) rfl) rfl
  ·refine aU (decide_eq_true (by omega)) (az ⟨by omega,by omega⟩ ?_)
   rw[step k (by omega),if_neg (h2 k hk)]
  ·refine aU (decide_eq_true (by omega)) (az ⟨by omega,by omega⟩ ?_)
   rw[step i hi,if_pos h1]
theorem Ta:∀(n:Nat)(v:aa)(fuel:Nat)(l:List Int),W n v->n<=fuel->(l.length+mc n v)*8<=room->fJ fuel l v=some (cT n v l)
 |0,_,_,_,h,_,_=>h.elim
 |n+1,_,0,_,_,h,_=>by omega
 |n+1,v,fuel+1,l,h,hf,hr=>by
  have hr':=hr
  have ec:mc (n+1) v=1+(v.L.map (mc n)).sum:=rfl
  unfold room at hr'
  have hlen:v.L.length<4611686018427387904:=by
   have:∀L:List aa,(∀x∈L,W n x)->L.length<=(L.map (mc n)).sum:=fun L hL=>by
    induction L with
    |nil=>simp
    |cons x L ih=>
     have h1:=ih fun y hy=>hL y (List.mem_cons_of_mem _ hy)
     have h2:1<=mc n x:=by
      have:=hL x (List.mem_cons_self ..)
      cases n with
      |zero=>exact this.elim
      |succ n=>show 1<=1+_;omega
     simp only[List.length_cons,List.map_cons,List.sum_cons];omega
   have:=this v.L h.2
   omega
  rw[fJ]
  by_cases h8:(v.Kind==8)=true
  ·have h6:(v.Kind==6||v.Kind==7)=false:=by
    rw[eq_of_beq h8];rfl
   rw[h8,TD,has_eq l v.N (by omega),a8]
   have er:cT (n+1) v l=dC l v.N:=by unfold cT;rw[if_pos h8]
   rw[er]
   unfold dC
   cases hc:l.contains v.N with
   |false=>exact aU rfl (az (by simp;omega) (az (by simp;omega) rfl))
   |true=>
    refine aF (by simp) (jT (a:=l) ?_ rfl)
    exact jd 0 (fun _=>l) rfl (by decide) (fun k hk=>by omega) (aB (a:=false) (by unfold eR;rw[h6]) rfl)
  ·have h8':(v.Kind==8)=false:=by simpa using h8
   rw[h8',TC,a8]
   refine aF (by simp) ?_
   cases hh:(v.Kind==6)||(v.Kind==7)with
   |false=>
    have er:cT (n+1) v l=l:=by unfold cT;rw[if_neg h8,hh];rfl
    rw[er]
    exact jT (a:=l) (jd 0 (fun _=>l) rfl (by decide) (fun k hk=>by omega) (aB (a:=false) (by unfold eR;rw[hh]) rfl)) rfl
   |true=>
    have er:cT (n+1) v l=v.L.foldl (fun l x=>cT n x l) l:=by rw[cT,if_neg h8,hh,if_pos rfl]
    rw[er]
    refine jT (a:=v.L.foldl (fun l x=>cT n x l) l) ?_ rfl
    refine jd v.L.length (fun k=>(v.L.take k).foldl (fun l x=>cT n x l) l) rfl hlen (fun k hk=>?_) ?_
    ·refine aB (a:=true) (by unfold eR;rw[hh]) (aU (by simp;omega) (az ⟨by omega,by omega⟩ ?_))
     have e2:ix v.L (k:Int)=v.L[k]:=kK (i:=(k:Int)) hk
     rw[e2]
     have s1:=Qg v.L (mc n) k hk
     have s2:=w7 (f:=fun l x=>cT n x l) (g:=mc n) (fun l x=>xi n x l) (v.L.take k) l
     refine aB (Ta n v.L[k] fuel _ (h.2 _ (List.getElem_mem hk)) (by omega) (by unfold room;omega)) ?_
     show some _=some _
     rw[List.take_succ_eq_append_getElem hk,List.foldl_append]
     rfl
    ·refine aB (a:=true) (by unfold eR;rw[hh]) (aF (by simp) ?_)
     rw[List.take_length]
theorem S6{n:Nat}:∀(L:List aa),(∀x∈L,W n x)->L.length<=(L.map (mc n)).sum
 |[],_=>by simp
 |x::L,hL=>by
  have h1:=S6 L fun y hy=>hL y (List.mem_cons_of_mem _ hy)
  have h2:1<=mc n x:=by
   have:=hL x (List.mem_cons_self ..)
   cases n with
   |zero=>exact this.elim
   |succ n=>show 1<=1+_;omega
  simp only[List.length_cons,List.map_cons,List.sum_cons];omega
theorem Ur(m:List (Int×Bool))(a k:Int):kO (qO m a true) k=if a=k then some true else kO m k:=by
 induction m with
 |nil=>
  show(bif k==a then some true else none)=_
  by_cases e:a=k
  ·subst e;simp
  ·rw[if_neg e]
   have:(k==a)=false:=by rw[beq_eq_false_iff_ne];exact fun h=>e h.symm
   rw[this];rfl
 |cons x m ih=>
  obtain⟨c,b⟩:=x
  show kO (bif a==c then(a,true)::m else(c,b)::qO m a true) k=_
  by_cases e:a=c
  ·subst e
   rw[show(a==a)=true by simp,cond_true]
   show(bif k==a then some true else kO m k)=if a=k then some true else(bif k==a then some b else kO m k)
   by_cases e2:a=k
   ·subst e2;simp
   ·rw[if_neg e2]
    have:(k==a)=false:=by rw[beq_eq_false_iff_ne];exact fun h=>e2 h.symm
    rw[this];rfl
  ·have e1:(a==c)=false:=by rw[beq_eq_false_iff_ne];exact e
   rw[e1,cond_false]
   show(bif k==c then some b else kO (qO m a true) k)=if a=k then some true else(bif k==c then some b else kO m k)
   rw[ih]
   by_cases e2:a=k
   ·subst e2;rw[e1];simp
   ·rw[if_neg e2,if_neg e2]
def Seen(m:List (Int×Bool))(l:List Int):Prop:=∀k,Rx false m k=l.contains k
theorem Seen.add{m:List (Int×Bool)}{l:List Int}(h:Seen m l)(n:Int):Seen (qO m n true) (l++[n]):=fun k=>by
 have:=h k
 unfold Rx at this⊢
 rw[Ur,List.contains_eq_mem]
 rw[List.contains_eq_mem]at this
 by_cases e:n=k
 ·subst e;simp
 ·rw[if_neg e,this]
  have e':¬k=n:=fun h=>e h.symm
  simp[e']
theorem X3(v:aa)(m:List (Int×Bool))(l:List Int)(hs:Seen m l)(hr:(l.length+1)*8<=room):
 ∃m',jE v m l=some (true,m',if v.Kind==8 then dC l v.N else l)/\Seen m' (if v.Kind==8 then dC l v.N else l):=by
 unfold jE
 by_cases h8:(v.Kind==8)=true
 ·rw[if_pos h8]
  unfold dC
  rw[hs v.N]
  cases hc:l.contains v.N with
  |true=>
   refine⟨m,?_,by simpa using hs⟩
   exact jT (a:=(m,l)) (aF (by simp) rfl) rfl
  |false=>
   refine⟨qO m v.N true,?_,by simpa using hs.add v.N⟩
   refine jT (a:=(qO m v.N true,l++[v.N])) (aU (by simp[h8]) (az (by simpa using hr) rfl)) rfl
 ·rw[if_neg h8]
  have h8':(v.Kind==8)=false:=by simpa using h8
  refine⟨m,jT (a:=(m,l)) (aF (by simp[h8']) rfl) rfl,hs⟩
theorem TB:∀(n:Nat)(v:aa)(fuel:Nat)(m:List (Int×Bool))(l:List Int),W n v->n<=fuel->Seen m l->(l.length+mc n v)*8<=room->∃m',gq fuel v m l=some (true,m',cT n v l)/\Seen m' (cT n v l)
 |0,_,_,_,_,h,_,_,_=>h.elim
 |n+1,_,0,_,_,_,h,_,_=>by omega
 |n+1,v,fuel+1,m,l,h,hf,hs,hr=>by
  have hr':=hr
  have ec:mc (n+1) v=1+(v.L.map (mc n)).sum:=rfl
  unfold room at hr'
  obtain⟨m1,h1,h2⟩:=X3 v m l hs (by unfold room;omega)
  rw[gq,h1,a8]
  by_cases h8:(v.Kind==8)=true
  ·rw[if_pos h8]at h2⊢
   have er:cT (n+1) v l=dC l v.N:=by rw[cT,if_pos h8]
   rw[er]
   refine⟨m1,?_,h2⟩
   have e8:=eq_of_beq h8
   exact aF (by simp) (aU (by rw[e8];rfl) rfl)
  ·rw[if_neg h8]at h2⊢
   cases hh:(v.Kind==6)||(v.Kind==7)with
   |false=>
    have er:cT (n+1) v l=l:=by rw[cT,if_neg h8,hh];rfl
    rw[er]
    refine⟨m1,?_,h2⟩
    refine aF (by simp) (aU ?_ rfl)
    rw[Bool.or_eq_false_iff]at hh
    rw[bne,bne,hh.1,hh.2];rfl
   |true=>
    have er:cT (n+1) v l=v.L.foldl (fun l x=>cT n x l) l:=by rw[cT,if_neg h8,hh,if_pos rfl]
    rw[er]
    have hlen:=S6 v.L h.2
    have hit:=nE (body:=fun((t7,o8,o9):Int×(List (Int×Bool))×(List Int))=>
     if decide (t7<(v.L.length:Int))then
      aG (0<=t7/\t7<v.L.length)<|
      aW (gq fuel (ix v.L t7) o8 o9) fun r15=>
      if !r15.1 then
       some (.inr (.inr (false,r15.2.1,r15.2.2)))
      else
       some (.inl (bj (t7+1),r15.2.1,r15.2.2))
     else
      some (.inr (.inl (o8,o9)))) (s0:=(0,m1,l))
     (fun s=>∃k:Nat,s.1=(k:Int)/\k<=v.L.length/\s.2.2=(v.L.take k).foldl (fun l x=>cT n x l) l/\Seen s.2.1 s.2.2)
     (fun s=>((v.L.length:Int) -s.1).toNat)
     (fun o=>∃m',o=(.inl (m',v.L.foldl (fun l x=>cT n x l) l):(List (Int×Bool)×List Int)⊕(Bool×List (Int×Bool)×List Int))/\Seen m' (v.L.foldl (fun l x=>cT n x l) l))
     ⟨0,rfl,Nat.zero_le _,rfl,h2⟩ (by show((v.L.length:Int) -0).toNat<_;omega) (by
       rintro⟨t,mm,ll⟩ ⟨k,e1,e2,e3,e4⟩
       simp only at e1 e3 e4
       subst e1;subst e3
       by_cases hk:k<v.L.length
       ·have e5:ix v.L (k:Int)=v.L[k]:=kK (i:=(k:Int)) hk
        have s1:=Qg v.L (mc n) k hk
        have s2:=w7 (f:=fun l x=>cT n x l) (g:=mc n) (fun l x=>xi n x l) (v.L.take k) l
        obtain⟨m',g1,g2⟩:=TB n v.L[k] fuel mm _ (h.2 _ (List.getElem_mem hk)) (by omega) e4 (by unfold room;omega)
        refine⟨_,aU (decide_eq_true (by omega)) (az ⟨by omega,by omega⟩ (aB (by rw[e5];exact g1) (aF (by simp) rfl))),?_⟩
        have hw:bj ((k:Int)+1)=((k+1:Nat):Int):=by rw[aI (by omega) (by omega)];omega
        refine⟨⟨k+1,hw,hk,?_,g2⟩,?_⟩
        ·rw[List.take_succ_eq_append_getElem hk,List.foldl_append];rfl
        ·show((v.L.length:Int) -bj ((k:Int)+1)).toNat<((v.L.length:Int) -k).toNat
         rw[hw];omega
       ·obtain rfl:k=v.L.length:=by omega
        refine⟨_,aF (by simp) rfl,mm,?_,?_⟩
        ·rw[List.take_length]
        ·rw[List.take_length]at e4;exact e4)
    obtain⟨o,i1,m',i2,i3⟩:=hit
    subst i2
    refine⟨m',?_,i3⟩
    refine aF (by simp) (aF ?_ (fN (z:=.inl (m',v.L.foldl (fun l x=>cT n x l) l)) (fm i1 rfl) rfl))
    rw[bne,bne]
    rcases Bool.or_eq_true .. ▸hh with h|h<;>rw[h]<;>simp
end Go.AB
end
