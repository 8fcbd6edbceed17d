/- A part of the proof. -/
import Derived.Test.YtkeagffgdajggaaGreatD13
import Derived.Test.YtkeagffgdajggaaGreatD23
import Derived.Test.YtkeagffgdajggaaGreatD15
import Derived.Test.YtkeagffgdajggaaGreatD22
set_option linter.unusedSimpArgs false
set_option linter.unusedVariables false
section
set_option maxRecDepth 4000
namespace Go.AB
open Go
open Go.Proofs.Tryz (prog)
attribute[-go_sem] cu dj bO ct Nat.add_zero mV bS
def pY:IC:=
 (ae [mv 5 0,le 6 0 5,mi 7 0] [0,1,6,7]
 (.block 0 (.loop [(0,false),(1,false),(6,false),(7,false)] (ae [bt 8 .lss 7 6] [0,1,6,7,8]
 (.seq (.cond (.t 8) .skip
 (.exit 0))
 (.seq (.block 1 (ae [mv 9 7,mv 4 9] [0,1,4,6,7]
 (ae [mv 10 4,bn 11 .eql 10 0,mv 12 11,df 13 0 12 false,df 14 4 12 false,ju 15 12 false .sub 14 1,du 16 12 false (.indexAddr [.int .u8 0] (.t 13) (.t 15)),lg 17 12 false 1 16,SI 18 12 false 67 17,po 19 12 18,mv 20 19,df 21 0 20 false,df 22 4 20 false,ju 23 20 false .sub 22 1,du 24 20 false (.indexAddr [.int .u8 0] (.t 21) (.t 23)),lg 25 20 false 1 24,SI 26 20 false 68 25,po 27 20 26] [0,1,4,6,7,27]
 (.cond (.t 27) (.bJ none [mv 28 1,mv 29 4,i1 30 (.cG (.t 28) [(.t 29)])] [0,1,6,7])
 .skip))))
 (.bJ none [bn 31 .add 7 1,mv 7 31] [0,1,6,7])))))))
theorem zN:aE prog 30 32 [] pY=true:=by kernel_rfl
def sv:IC:=
 (ae [ld 7 1 1,mv 8 0,c2 9 32 7 8,gi 6 9,ex 10 6 0,ex 11 6 1,mv 4 10,mv 5 11] [0,2,4,5]
 (.seq (ae [mv 12 5,no 13 12] [0,2,4,13]
 (.cond (.t 13) .ret
 .skip))
 (.seq (.block 0 (.loop [(0,false),(2,false),(4,false)] (.seq (ae [ld 14 1 2,le 15 0 14,mv 16 4,bt 17 .lss 15 16] [0,2,4,17]
 (.cond (.t 17) .skip
 (.exit 0)))
 (.block 1 (.bJ none [ld 18 1 2,i1 19 (.aN 1 1 jv [(0,1,(.c (.int .i64 (-1))))]),i1 20 (.fk 1 8 jv (.t 18) (.t 19)),st 1 2 20] [0,2,4])))))
 (.bJ none [ld 21 1 2,mv 22 4,bn 23 .sub 22 1,mv 24 0,ia 25 jv 21 23,st 1 25 24] []))))
theorem CH:aE prog 31 26 [] sv=true:=by kernel_rfl
def um:IC:=
 (ae [i1 1 (.oU 1 (.t 0)),cZ 2 (.sl true 1 0 [])] [1]
 (ae [i1 3 (.gR [.arr 0 0 0 0])] [1,3]
 (ae [ld 4 1 1,i1 5 (.kL 31 [] [(.t 1),(.t 3)]),c2 6 30 4 5] [3]
 (ae [ld 7 1 3,i1 2 (.UB 1 true (.t 7))] [2]
 .ret))))
theorem EK:aE prog 9 8 [⟨2,false,none⟩] um=true:=by kernel_rfl
def uq:IC:=
 (ae [i1 1 (.oU 1 (.t 0)),i1 2 (.an gj),cZ 3 (.bool false)] [1,2]
 (ae [i1 7 (.aN 1 7 [.int .u8 0,.int .u8 0,.int .u8 0,.int .u8 0,.int .u8 0,.int .u8 0,.int .u8 0] [(0,1,(.c (.int .u8 116))),(1,1,(.c (.int .u8 114))),(2,1,(.c (.int .u8 97))),(3,1,(.c (.int .u8 105))),(4,1,(.c (.int .u8 108))),(5,1,(.c (.int .u8 101))),(6,1,(.c (.int .u8 114)))]),i1 8 (.kz (.t 7)),i1 4 (.gR [.sl true 1 0 []]),st 1 4 8] [1,2,4]
 (ae [i1 5 (.gR pr)] [1,2,4,5]
 (ae [i1 6 (.gR [.bool false]),i0 (.store 1 (.t 6) (.c (.bool false)))] [1,2,4,5,6]
 (ae [ld 9 1 1,i1 10 (.kL 34 [] [(.t 1),(.t 4),(.t 5),(.t 6)]),c2 11 30 9 10] [2,5,6]
 (.seq (.oG [2] 4 [lm 12 4 5,ld 13 1 6,st 4 2 12,mv 3 13] [2,3])
 .ret))))))
theorem EL:aE prog 12 14 [⟨2,false,some (4,true)⟩,⟨3,true,none⟩] uq=true:=by kernel_rfl
def sw:IC:=
 (.seq (.seq (.bJ (some 6) [ld 11 1 1,mv 12 0,rG 13 1 11 12,ld 14 1 2,c2 15 35 13 14,no 16 15] [0,1,2,3,4,16])
 (.cond (.t 16) .ret
 .skip))
 (ae [ld 18 1 1,mv 19 0,ld 20 1 2,le 21 0 20,bt 22 .add 19 21,i1 23 (.call 36 [(.t 18),(.t 22),(.c (.bool true))]),gi 17 23,ex 24 17 0,ex 25 17 1,ex 26 17 2,i1 6 (.an gj),st 4 6 24,mv 7 25,mv 8 26] [3,4,6,8]
 (ae [lm 28 4 6,i1 29 (.call 37 [(.t 28),(.c (.str [82,111,111,116]))]),gi 27 29,ex 30 27 0,ex 31 27 1,i1 9 (.an gj),st 4 9 30,mv 10 31] [3,4,6,8,9]
 (ae [mv 32 8,bn 33 .eql 32 0,mv 34 33,fg 35 34 true 0 9,lg 36 34 true 1 35,ju 37 34 true .eql 36 8,pf 38 34 37] [3,4,6,38]
 (.cond (.t 38) (.bJ none [lm 39 4 6,st 4 3 39,i0 (.store 1 (.t 4) (.c (.bool true)))] [])
 .skip)))))
theorem CI:aE prog 34 40 [] sw=true:=by kernel_rfl
def beg(b:List UInt8)(k:Int):Option Bool:=bif k==0 then some true else aJ (jP (ix b (k -1))) fun x=>bif x then some true else mY (ix b (k -1))
def TX{S:Type}(step:S->Int->Option S)(b:List UInt8)(q:S×Int):Option ((S×Int)⊕S):=bif decide (q.2<b.length)then aB (0<=q.2/\q.2<2^62)<|aJ (beg b q.2) fun x=>bif x then aJ (step q.1 q.2) fun t=>some (.inl (t,q.2+1))else some (.inl (q.1,q.2+1))else some (.inr q.1)
theorem VS{S:Type}{step:S->Int->Option S}{b:List UInt8}{c:Nat}{eG:List AV}{R:S->ab->Prop}{st:S}{s:ab}{Q:List AV->ab->Prop}(hok:(pR prog c=true)=True)(hv:b7 (fun x=>match x with|.c a=>a|_=>.undef) (eG.map .c)=some eG)
 (jz:∀st k s st',step st k=some st'->R st s->FN prog c ([.int .i64 k]++eG) s fun rs s'=>rs=[]/\R st' s')(h0:R st s)(hm:ok (iter (TX step b) (st,0)) fun st'=>∀s',R st' s'->Q [] s'):
 FN prog 30 [sF 1 b,.fn c [] eG] s Q:=by
 refine FO zN rfl rfl ?_
 rw[pY]
 simp -implicitDefEqProofs only[go_sem,seval]
 refine gX (fun(q:S×Int) U=>∃s',R q.1 s'/\U=(⟨[(0,sF 1 b),(1,.fn c [] eG),(6,.int .i64 b.length),(7,.int .i64 q.2)],[],s'⟩:St)) ⟨s,h0,rfl⟩ ?_ hm
 rintro J ⟨st1,k⟩ U ⟨s1,hR,rfl⟩ hb
 unfold TX at hb
 simp only at hb
 cases hlt:decide (k<(b.length:Int))with
 |false=>
  rw[hlt,cond_false,aF]at hb
  simp only[ns]at hb
  simp -implicitDefEqProofs only[go_sem,seval,hlt,Bool.true_eq_false,Bool.false_eq_true,false_implies,true_implies,true_and,and_true]
  exact hb s1 hR
 |true=>
  rw[hlt,cond_true,dN,dS]at hb
  obtain⟨⟨q1,q2⟩,x,hx,hb⟩:=hb
  have hk:k<(b.length:Int):=by simpa using hlt
  have w1:bd (k+1)=k+1:=aI (by omega) (by omega)
  have w2:bd (k -1)=k -1:=aI (by omega) (by omega)
  unfold beg at hx
  cases h0:(k==0)with
  |true=>
   rw[h0,cond_true]at hx
   injection hx with hx
   subst hx
   rw[cond_true,dS]at hb
   obtain⟨t,ht,hb⟩:=hb
   rw[aF]at hb
   simp only[iA]at hb
   simp -implicitDefEqProofs only[go_sem,seval,hlt,h0,w1,w2,Bool.true_eq_false,Bool.false_eq_true,false_implies,true_implies,true_and,and_true,Bool.true_or]
   refine⟨by simpa using hok,FN.mono (jz _ _ _ _ ht hR) fun rs s'⟨e,hR'⟩=>?_⟩
   subst e
   simp -implicitDefEqProofs only[go_sem,seval,w1]
   exact hb _ ⟨s',hR',rfl⟩
  |false=>
   rw[h0,cond_false]at hx
   have hx':ok (aJ (jP (ix b (k -1))) fun x=>bif x then some true else mY (ix b (k -1))) fun z=>z=x:=⟨x,hx,rfl⟩
   rw[dS]at hx'
   obtain⟨x1,hx1,hx'⟩:=hx'
   have k1:0<=k -1/\k -1<(b.length:Int):=by
    have:k≠0:=by simpa using h0
    omega
   cases x1 with
   |true=>
    rw[cond_true,aF]at hx'
    subst hx'
    rw[cond_true,dS]at hb
    obtain⟨t,ht,hb⟩:=hb
    rw[aF]at hb
    simp only[iA]at hb
    simp -implicitDefEqProofs only[go_sem,seval,hlt,h0,w1,w2,Bool.true_eq_false,Bool.false_eq_true,false_implies,true_implies,true_and,and_true,Bool.true_or]
    refine⟨k1,FE.app (mc hx1) ?_⟩
    simp -implicitDefEqProofs only[go_sem,seval,w1,w2,Bool.true_eq_false,Bool.false_eq_true,false_implies,true_implies,true_and,and_true,Bool.true_or]
    refine⟨by simpa using hok,FN.mono (jz _ _ _ _ ht hR) fun rs s'⟨e,hR'⟩=>?_⟩
    subst e
    simp -implicitDefEqProofs only[go_sem,seval,w1]
    exact hb _ ⟨s',hR',rfl⟩
   |false=>
    rw[cond_false]at hx'
    obtain⟨x2,hx2,rfl⟩:=hx'
    cases x2 with
    |true=>
     rw[cond_true,dS]at hb
     obtain⟨t,ht,hb⟩:=hb
     rw[aF]at hb
     simp only[iA]at hb
     simp -implicitDefEqProofs only[go_sem,seval,hlt,h0,w1,w2,Bool.true_eq_false,Bool.false_eq_true,false_implies,true_implies,true_and,and_true,Bool.true_or]
     refine⟨k1,FE.app (mc hx1) ?_⟩
     simp -implicitDefEqProofs only[go_sem,seval,w1,w2,Bool.true_eq_false,Bool.false_eq_true,false_implies,true_implies,true_and,and_true,Bool.true_or]
     refine⟨k1,FE.app (tB hx2) ?_⟩
     simp -implicitDefEqProofs only[go_sem,seval,w1,w2,Bool.true_eq_false,Bool.false_eq_true,false_implies,true_implies,true_and,and_true,Bool.true_or]
     refine⟨by simpa using hok,FN.mono (jz _ _ _ _ ht hR) fun rs s'⟨e,hR'⟩=>?_⟩
     subst e
     simp -implicitDefEqProofs only[go_sem,seval,w1]
     exact hb _ ⟨s',hR',rfl⟩
    |false=>
     rw[cond_false,aF]at hb
     simp only[iA]at hb
     simp -implicitDefEqProofs only[go_sem,seval,hlt,h0,w1,w2,Bool.true_eq_false,Bool.false_eq_true,false_implies,true_implies,true_and,and_true,Bool.true_or]
     refine⟨k1,FE.app (mc hx1) ?_⟩
     simp -implicitDefEqProofs only[go_sem,seval,w1,w2,Bool.true_eq_false,Bool.false_eq_true,false_implies,true_implies,true_and,and_true,Bool.true_or]
     refine⟨k1,FE.app (tB hx2) ?_⟩
     simp -implicitDefEqProofs only[go_sem,seval,w1,w2,Bool.true_eq_false,Bool.false_eq_true,false_implies,true_implies,true_and,and_true,Bool.true_or]
     exact hb _ ⟨s1,hR,rfl⟩
def agu(n:Int)(out:List Int):Option (List Int⊕List Int):=bif decide ((out.length:Int)<n)then aB ((out.length+1)*8<=room)<|some (.inl (out++[-1]))else some (.inr out)
def Fx(b:List UInt8)(out:List Int)(at_:Int):Option (List Int):=aJ (xH b at_) fun r=>bif !r.2 then some out else aJ (iter (agu r.1) out) fun o=>aB (1<=r.1/\r.1<=o.length/\r.1<2^61)<|some (o.set (r.1 -1).toNat at_)
def Ta(s0:ab)(o:Nat)(out:List Int)(s:ab):Prop:=∃s1 r,s1 o=some (.cells [iX r out.length])/\Sub s0 s1/\gQ s1 r out/\s=gI s1 r out
theorem Vg{s:ab}{r:c8}{ls:List Int}{B:Nat}{o o':SO}(h:gQ s r ls)(hB:s B=some o):(gI s r ls).set B o'=gI (s.set B o') r ls/\gQ (s.set B o') r ls:=by
 cases r with
 |none=>exact⟨rfl,h⟩
 |some x=>
  obtain⟨rb,cap,sp⟩:=x
  obtain⟨h1,h2⟩:=h
  have hne:B≠rb:=fun e=>by subst e;rw[h1]at hB;cases hB
  refine⟨set_comm hne,⟨by rw[aj hne.symm];exact h1,h2⟩⟩
theorem Sl{b:List UInt8}{s0 s:ab}{o bb:Nat}{out ZW:List Int}{k:Int}(h0:s0 o=none)(hb:s0 bb=some (.cells [sF 1 b]))(hs:Fx b out k=some ZW)(h:Ta s0 o out s):
 FN prog 31 [.int .i64 k,.ref bb 0,.ref o 0] s fun rs s'=>rs=[]/\Ta s0 o ZW s':=by
 have cO:room=140737488355328:=rfl
 obtain⟨s1,r,h1,h2,h3,rfl⟩:=h
 have hbb:gI s1 r out bb=some (.cells [sF 1 b]):=jK h3 (h2 _ _ hb)
 have hs':ok (Fx b out k) fun z=>z=ZW:=⟨ZW,hs,rfl⟩
 unfold Fx at hs'
 rw[dS]at hs'
 obtain⟨⟨n,is⟩,hh,hs'⟩:=hs'
 refine FO CH rfl rfl ?_
 rw[sv]
 generalize hst:gI s1 r out=st at*
 simp -implicitDefEqProofs only[go_sem,seval,hbb]
 refine FE.app (NV hh) ?_
 simp -implicitDefEqProofs only[go_sem,seval]
 refine⟨fun hi=>?_,fun hi=>?_⟩
 ·rw[hi,cond_true,aF]at hs'
  subst hs'
  exact⟨s1,r,h1,h2,h3,hst.symm⟩
 ·rw[hi,cond_false,dS]at hs'
  obtain⟨o2,ho2,hs'⟩:=hs'
  rw[dN,aF]at hs'
  obtain⟨⟨m1,m2,m3⟩,rfl⟩:=hs'
  refine gX (kf:=fun z=>z=o2) (fun(q:List Int) U=>∃s',Ta s0 o q s'/\U=(⟨[(0,.int .i64 k),(2,.ref o 0),(4,.int .i64 n)],[],s'⟩:St)) ⟨st,⟨s1,r,h1,h2,h3,hst.symm⟩,rfl⟩ ?_ ⟨o2,ho2,rfl⟩
  rintro J q U ⟨s',⟨s2,r2,g1,g2,g3,rfl⟩,rfl⟩ hq
  have hB:gI s2 r2 q o=some (.cells [iX r2 q.length]):=jK g3 g1
  unfold agu at hq
  cases hlt:decide ((q.length:Int)<n)with
  |false=>
   rw[hlt,cond_false,aF]at hq
   simp only[ns]at hq
   subst hq
   obtain⟨rb,cap,sp,rfl⟩:=NQ g3 (by omega)
   have w1:bd (n -1)=n -1:=aI (by omega) (by omega)
   obtain⟨r1,_⟩:=Ye q sp (n:=1) rfl (j:=n -1) (by omega) (by omega)
   have st1:=aaw q sp (n:=1) rfl k (j:=n -1) (by omega) (by omega)
   have st1:setAt (flat q++sp) ((n -1).toNat*1) [.int .i64 k]=_:=st1
   have hrb:gI s2 (some (rb,cap,sp)) q rb=some (.cells (flat q++sp)):=bG ..
   have hup:=TV (l':=q.set (n -1).toNat k) g3 (List.length_set ..)
   have hne:o≠rb:=fun e=>by subst e;rw[g3.1]at g1;cases g1
   generalize MA:gI s2 (some (rb,cap,sp)) q=st2 at*
   generalize hcs:flat q++sp=cs at*
   have hB:st2 o=some (.cells [.arr rb 0 q.length cap]):=hB
   simp -implicitDefEqProofs only[go_sem,seval,hB,hlt,w1,hrb,Bool.true_eq_false,Bool.false_eq_true,false_implies,true_implies,true_and,and_true]
   rw[st1]
   refine⟨⟨by omega,by omega⟩,r1,s2,some (rb,cap,sp),by rw[List.length_set];exact g1,g2,hup,?_⟩
   rw[<-MA]
   exact set_set ..
  |true=>
   rw[hlt,cond_true,dN,aF]at hq
   simp only[iA]at hq
   obtain⟨hr,hq⟩:=hq
   generalize MA:gI s2 r2 q=st2 at*
   simp -implicitDefEqProofs only[go_sem,seval,hB,hlt,Bool.true_eq_false,Bool.false_eq_true,false_implies,true_implies,true_and,and_true]
   rw[gA]
   have fin:=xh (E:=?_) (d:=?_) (K:=?_) (by':=8) (s:=s2) (r:=r2) (l:=q) (z:=(0:Int)) (v:=(-1:Int)) (sz:=1) ?_ g3 rfl hr ?_
   ·exact fin
   ·exact MA.symm
   ·intro s3 r3 f1 f2
    have hB2:s3 o=some (.cells [iX r2 q.length]):=f1 _ _ g1
    have hB3:gI s3 r3 (q++[(-1:Int)]) o=some (.cells [iX r2 q.length]):=jK f2 hB2
    generalize akA:gI s3 r3 (q++[(-1:Int)])=st3 at hB3
    simp -implicitDefEqProofs only[go_sem,seval,hB3]
    refine hq _ ⟨_,?_,rfl⟩
    obtain⟨q1,q2⟩:=Vg (o':=.cells [iX r3 (q.length+1)]) f2 hB2
    refine⟨s3.set o (.cells [iX r3 (q.length+1)]),r3,by rw[bG];simp,fun b' o' hb'=>?_,q2,?_⟩
    ·have hne:b'≠o:=fun e=>by subst e;rw[h0]at hb';cases hb'
     rw[aj hne]
     exact f1 _ _ (g2 _ _ hb')
    ·rw[<-akA];exact q1
def tM(b:List UInt8):Option (List Int):=iter (TX (Fx b) b) ([],0)
theorem E4{b_0:List UInt8}{s:ab}{r:List Int}(h:tM b_0=some r):FE prog 9 [sF 1 b_0] s [sF 1 r] s:=by
 refine FN.lO (FO EK rfl rfl ?_)
 rw[um]
 simp -implicitDefEqProofs only[go_sem,seval]
 intro bb hbb o ho
 have n1:=ho
 rw[dh]at n1
 have hne:bb≠o:=n1.1.symm
 simp -implicitDefEqProofs only[go_sem,seval,aj hne]
 refine VS (R:=Ta (s.set bb (.cells [sF 1 b_0])) o) (eq_true (by kernel_rfl)) rfl (fun st k s1 st' hs hR=>Sl ho cq hs hR) ⟨_,none,cq,(Sub.refl _).set ho,rfl,rfl⟩ ⟨r,h,fun s' hR=>?_⟩
 obtain⟨s1,r1,h1,h2,h3,rfl⟩:=hR
 have hB:=jK h3 h1
 generalize hst:gI s1 r1 r=st at*
 simp -implicitDefEqProofs only[go_sem,seval,hB]
 have fz:=AM (E:=?_) (d:=?_) (K:=?_) (sz:=1) (s:=s1) (r:=r1) (l:=r) ?_ h3 rfl ?_
 ·exact fz
 ·exact hst.symm
 ·simp -implicitDefEqProofs only[go_sem,seval]
  exact⟨s,fun b o hb=>h2 _ _ (((Sub.refl s).set hbb) b o hb),rfl⟩
def trW:List UInt8:=[116,114,97,105,108,101,114]
def IW(b:List UInt8)(st:aa×Bool)(k:Int):Option (aa×Bool):=
 aB (0<=k/\k<=b.length/\k<2^61)<|aJ (kg (part b k (b.length:Int)) trW) fun p=>bif !p then some st else
 aJ (qQ b (k+7) true) fun v=>aJ (bc v.1 ⟨[82,111,111,116]⟩) fun g=>bif(v.2.2==0)&&(g.1.Kind==8)then some (v.1,true)else some st
def YV(s0:ab)(ov f:Nat)(st:aa×Bool)(s:ab):Prop:=s=(s0.set ov (.cells [.int .i64 st.1.Kind,.int .i64 st.1.N,.str st.1.S.b,sF 4 st.1.L])).set f (.cells [.bool st.2])
theorem Vu{b:List UInt8}{s0 s:ab}{ov f bb wb:Nat}{own:Bool}{st st':aa×Bool}{k:Int}(hv:s0 ov=none)(hf:s0 f=none)(hne:f≠ov)(hb:s0 bb=some (.cells [sF 1 b]))(hw:s0 wb=some (.cells [.sl own 1 7 (flat trW)]))
 (hs:IW b st k=some st')(h:YV s0 ov f st s):FN prog 34 [.int .i64 k,.ref bb 0,.ref wb 0,.ref ov 0,.ref f 0] s fun rs s'=>rs=[]/\YV s0 ov f st' s':=by
 have n1:bb≠ov:=fun e=>by subst e;rw[hv]at hb;cases hb
 have n2:bb≠f:=fun e=>by subst e;rw[hf]at hb;cases hb
 have n3:wb≠ov:=fun e=>by subst e;rw[hv]at hw;cases hw
 have n4:wb≠f:=fun e=>by subst e;rw[hf]at hw;cases hw
 have e1:s bb=some (.cells [sF 1 b]):=by rw[h,aj n2,aj n1];exact hb
 have e2:s wb=some (.cells [.sl own 1 7 (flat trW)]):=by rw[h,aj n4,aj n3];exact hw
 have e3:s ov=some (.cells [.int .i64 st.1.Kind,.int .i64 st.1.N,.str st.1.S.b,sF 4 st.1.L]):=by rw[h,aj hne.symm,bG]
 have e4:s f=some (.cells [.bool st.2]):=by rw[h,bG]
 have hs':ok (IW b st k) fun z=>z=st':=⟨st',hs,rfl⟩
 unfold IW at hs'
 rw[dN,dS]at hs'
 obtain⟨⟨k1,k2,k3⟩,p,hp,hs'⟩:=hs'
 have fp:=xr 1 b k (b.length:Int) rfl
 refine FO CI rfl rfl ?_
 rw[sw]
 simp -implicitDefEqProofs only[go_sem,seval,e1,e2]
 refine⟨⟨k1,k2,Int.le_refl _⟩,[.bool p],rfl,zd (prefix_1:=trW) hp,?_⟩
 cases p with
 |false=>
  rw[Bool.not_false,cond_true,aF]at hs'
  subst hs'
  simp -implicitDefEqProofs only[go_sem,seval,Bool.not_false,Bool.true_eq_false,Bool.false_eq_true,false_implies,true_implies,true_and,and_true]
  exact h
 |true=>
  rw[Bool.not_true,cond_false,dS]at hs'
  obtain⟨v,hv2,hs'⟩:=hs'
  rw[dS]at hs'
  obtain⟨g,hg,hs'⟩:=hs'
  have w1:bd (k+7)=k+7:=aI (by omega) (by omega)
  have e7:((7:Nat):Int)=7:=rfl
  simp -implicitDefEqProofs only[go_sem,seval,e1,e2,e7,w1,Bool.not_true,Bool.true_eq_false,Bool.false_eq_true,false_implies,true_implies,true_and,and_true]
  refine FE.app (wJ hv2) ?_
  simp -implicitDefEqProofs only[go_sem,seval,Bool.true_eq_false,Bool.false_eq_true,false_implies,true_implies,true_and,and_true]
  refine FE.app (fH hg) ?_
  simp -implicitDefEqProofs only[go_sem,seval,Bool.true_eq_false,Bool.false_eq_true,false_implies,true_implies,true_and,and_true]
  cases c1:(v.2.2==0)with
  |false=>
   simp only[c1,Bool.false_and,cond_false,aF]at hs'
   subst hs'
   simp -implicitDefEqProofs only[go_sem,seval,c1,Bool.true_eq_false,Bool.false_eq_true,false_implies,true_implies,true_and,and_true,Bool.false_and]
   first|exact h|trace_state
  |true=>
   cases c2:(g.1.Kind==8)with
   |false=>
    simp only[c1,c2,Bool.and_false,cond_false,aF]at hs'
    subst hs'
    simp -implicitDefEqProofs only[go_sem,seval,c1,c2,Bool.true_eq_false,Bool.false_eq_true,false_implies,true_implies,true_and,and_true,Bool.false_and]
    first|exact h|trace_state
   |true=>
    simp only[c1,c2,Bool.and_true,cond_true,aF]at hs'
    subst hs'
    have e5:∀cs,(s.set ov (.cells cs)) f=some (.cells [.bool st.2]):=fun cs=>by rw[aj hne];exact e4
    simp -implicitDefEqProofs only[go_sem,seval,c1,c2,e3,e5,Bool.true_eq_false,Bool.false_eq_true,false_implies,true_implies,true_and,and_true,Bool.false_and]
    unfold YV at h⊢
    rw[h]
    funext x
    by_cases hx:x=f
    ·subst hx;rw[bG,bG]
    ·rw[aj hx,aj hx]
     by_cases hy:x=ov
     ·subst hy;rw[bG,bG]
     ·rw[aj hy,aj hy,aj hx,aj hy]
def tN(b:List UInt8):Option (aa×Bool):=iter (TX (IW b) b) ((zV,false),0)
theorem E5{b_0:List UInt8}{s:ab}{r:aa×Bool}(h:tN b_0=some r):FE prog 12 [sF 1 b_0] s
 [.agg [.int .i64 r.1.Kind,.int .i64 r.1.N,.str r.1.S.b,sF 4 r.1.L],.bool r.2] s:=by
 refine FN.lO (FO EL rfl rfl ?_)
 rw[uq]
 simp -implicitDefEqProofs only[go_sem,seval]
 intro bb hbb wb hwb ov hov f hf
 have n1:=hwb
 rw[dh]at n1
 generalize hS1:s.set bb (.cells [sF 1 b_0])=S1 at*
 have hb1:S1 bb=some (.cells [sF 1 b_0]):=by rw[<-hS1];exact bG ..
 have hw':S1 wb=none:=hwb
 generalize hS0:S1.set wb _=S0 at*
 have hw0:S0 wb=some (.cells [.sl false 1 7 (flat trW)]):=by rw[<-hS0];exact bG ..
 have hb0:S0 bb=some (.cells [sF 1 b_0]):=by rw[<-hS0,aj (fun e=>by rw[e,hw']at hb1;cases hb1)];exact hb1
 have ft:Sub s S0:=by
  rw[<-hS0,<-hS1]
  exact((Sub.refl s).set hbb).set (by rw[hS1];exact hw')
 rw[dh]at hf
 have eB:((S0.set ov (.cells [.int .i64 0,.int .i64 0,.str [],.sl false 4 0 []])).set f (.cells [.bool false])) bb=some (.cells [sF 1 b_0]):=by
  rw[aj (fun e=>by rw[<-e,hb0]at hf;cases hf.2),aj (fun e=>by rw[<-e,hb0]at hov;cases hov)]
  exact hb0
 simp -implicitDefEqProofs only[go_sem,seval,eB]
 refine VS (R:=YV S0 ov f) (step:=IW b_0) (st:=(zV,false)) (eq_true (by kernel_rfl)) rfl (fun st k s1 st' hs hR=>Vu hov hf.2 hf.1 hb0 hw0 hs hR) rfl ⟨r,h,fun s' hR=>?_⟩
 have e3:s' ov=some (.cells [.int .i64 r.1.Kind,.int .i64 r.1.N,.str r.1.S.b,sF 4 r.1.L]):=by rw[hR,aj hf.1.symm,bG]
 have e4:s' f=some (.cells [.bool r.2]):=by rw[hR,bG]
 have hs2:Sub s s':=by
  rw[hR]
  exact(ft.set hov).set (by rw[dh];exact hf)
 simp -implicitDefEqProofs only[go_sem,seval,e3,e4]
 first|exact⟨s,hs2,rfl⟩|exact⟨rfl,s,hs2,rfl⟩|trace_state
end Go.AB
end
section
set_option maxRecDepth 4000
namespace Go.AB
open Go
open Go.Proofs.Tryz (prog)
attribute[-go_sem] cu dj bO ct Nat.add_zero mV bS
def sO(s_0:I9):Option (cN×Int×Int):=
 aJ (pJ s_0) fun r1=>
 aJ (rT s_0 0 r1) fun r2=>
 if !r2.2 then
  none
 else
  aJ (tM r2.1) fun r3=>
  aJ (tN r2.1) fun r4=>
  if r4.2 then
   aJ (bc r4.1 (ar.mk [82,111,111,116])) fun r5=>
   if r5.1.N==0 then
    none
   else
    some ((cN.mk r3 r5.1.N),0,0)
  else
   none
def Bd:IC:=
 (ae [i1 2 (.an [.sl true 1 0 [],.int .i64 0]),mi 3 0,mi 4 0] [0,2]
 (ae [mv 13 0,mv 14 0,c1 15 62 14,i1 16 (.call 61 [(.t 13),(.c (.int .i64 0)),(.t 15)]),gi 12 16,ex 17 12 0,ex 18 12 1,mt 5 17,mv 6 18] [2,5,6]
 (.seq (ae [mv 19 6,no 20 19] [2,5,20]
 (.cond (.t 20) .dead
 .skip))
 (ae [mv 24 5,c1 25 9 24,i1 26 (.build [.sl true 1 0 [],.int .i64 0] [(0,1,(.t 25))]),i1 7 (.an [.sl true 1 0 [],.int .i64 0]),st 2 7 26] [2,5,7]
 (.seq (ae [mt 28 5,c1 29 12 28,gi 27 29,ex 30 27 0,ex 31 27 1,i1 8 (.an gj),st 4 8 30,mv 9 31] [2,7,8,9]
 (ae [mv 32 9] [2,7,8,32]
 (.cond (.t 32) (ae [lm 34 4 8,i1 35 (.call 37 [(.t 34),(.c (.str [82,111,111,116]))]),gi 33 35,ex 36 33 0,ex 37 33 1,i1 10 (.an gj),st 4 10 36,mv 11 37] [2,7,10]
 (.bJ none [fa 38 1 10,ld 39 1 38,fa 40 1 7,st 1 40 39] [2,7]))
 .dead)))
 (.seq (ae [fa 46 1 7,ld 47 1 46,bn 48 .eql 47 0] [2,7,48]
 (.cond (.t 48) .dead
 .skip))
 (ae [lm 50 2 7,st 2 2 50,mi 3 0,mi 4 0] [2,3,4]
 .ret)))))))
theorem MT:aE prog 28 51 [⟨2,false,some (2,true)⟩,⟨3,true,none⟩,⟨4,true,none⟩] Bd=true:=by kernel_rfl
theorem NU{s_0}{s:ab}{Q:List AV->ab->Prop}(va0:jx s s_0):ok (sO s_0) (fun r=>Q [.agg [sF 1 r.1.de,.int .i64 r.1.cM],.int .i64 r.2.1,.int .i64 r.2.2] s)->FN prog 28 [.ref s_0.B 0] s Q:=by
 intro h
 refine FO MT rfl rfl ?_
 revert h
 rw[Bd,sO]
 repeat'(first
  |(with_reducible first|exact bW|refine bj ?_ ?_|refine ch ?_|refine ah (fun _(h:pJ s_0=some _)=>x4 (jx.mono (by assumption) (by repeat'(first|exact Sub.refl _|refine Sub.set ?_ ?_|assumption|(simp[ab.set, *];done)))) h) (fun r1=>?_)|refine ah (fun _(h:rT s_0 0 r1=some _)=>Aq (jx.mono (by assumption) (by repeat'(first|exact Sub.refl _|refine Sub.set ?_ ?_|assumption|(simp[ab.set, *];done)))) h) (fun r2=>?_)|refine ah (fun _(h:tM r2.1=some _)=>E4 h) (fun r3=>?_)|refine ah (fun _(h:tN r2.1=some _)=>E5 h) (fun r4=>?_)|refine ah (fun _(h:bc r4.1 (ar.mk [82,111,111,116])=some _)=>fH h) (fun r5=>?_))
  |simp -implicitDefEqProofs only[go_sem,seval])
theorem NT{s_0}{s:ab}{r:cN×Int×Int}(va0:jx s s_0)(h:sO s_0=some r):FE prog 28 [.ref s_0.B 0] s [.agg [sF 1 r.1.de,.int .i64 r.1.cM],.int .i64 r.2.1,.int .i64 r.2.2] s:=NU va0 ⟨r,h,rfl,rfl⟩
end Go.AB
end
section
set_option maxRecDepth 4000
namespace Go.AB
open Go
open Go.Proofs.Tryz (prog)
attribute[-go_sem] cu dj bO ct Nat.add_zero mV bS
def Bo:IC:=
 (ae [i1 4 (.an [.sl true 6 0 [],.int .i64 0,.int .i64 0,.str [],.sl true 4 0 []]),mi 5 0,mi 6 0] [0,1,4]
 (.Dj 0 [(0,false),(1,false),(4,false),(7,false),(8,false)] (.bJ none [cZ 7 (.fn 90 [] []),cZ 8 (.bool false)] [0,1,4,7,8])
 .skip
 .skip
 (ae [mv 14 7,mv 15 0,i1 16 (.cG (.t 14) [(.t 15)]),gi 13 16,ex 17 13 0,ex 18 13 1,ex 19 13 2,i1 9 (.an [.sl true 1 0 [],.int .i64 0]),st 2 9 17,mv 10 18,mv 11 19] [0,1,4,8,9,10,11]
 (.seq (ae [mv 20 11,bn 21 .neq 20 0] [0,1,4,8,9,10,11,21]
 (.cond (.t 21) (.seq (ae [mv 22 8,no 23 22,mv 24 23,df 25 11 24 true,SI 26 24 true 91 25,du 27 24 true (.un .not (.t 26)),pf 28 24 27] [0,1,4,10,11,28]
 (.cond (.t 28) (ae [cZ 7 (.fn 28 [] []),cZ 8 (.bool true)] [0,1,4,7,8]
 (.goto 0))
 .skip))
 (ae [i1 29 (.build [.sl true 6 0 [],.int .i64 0,.int .i64 0,.str [],.sl true 4 0 []] []),mv 30 10,mv 31 11,st 5 4 29,mv 5 30,mv 6 31] [4,5,6]
 .ret))
 .skip))
 (ae [mv 33 0,lm 34 2 9,c2 35 92 33 34,mv 36 1,c2 37 17 35 36,gi 32 37,ex 38 32 0,ex 39 32 1,ex 40 32 2,i1 12 (.an [.sl true 6 0 [],.int .i64 0,.int .i64 0,.str [],.sl true 4 0 []]),st 5 12 38,mv 10 39,mv 11 40] [0,1,4,8,10,11,12]
 (.seq (ae [mv 41 8,no 42 41,mv 43 42,df 44 11 43 true,SI 45 43 true 91 44,du 46 43 true (.un .not (.t 45)),pf 47 43 46] [0,1,4,10,11,12,47]
 (.cond (.t 47) (ae [cZ 7 (.fn 28 [] []),cZ 8 (.bool true)] [0,1,4,7,8]
 (.goto 0))
 .skip))
 (ae [lm 48 5 12,mv 49 10,mv 50 11,st 5 4 48,mv 5 49,mv 6 50] [4,5,6]
 .ret)))))))
theorem M4:aE prog 45 51 [⟨4,false,some (5,true)⟩,⟨5,true,none⟩,⟨6,true,none⟩] Bo=true:=by kernel_rfl
theorem SV:iter (fun last:Bool=>(bif last then some (.inr ())else some (.inl true):Option (Bool⊕Unit))) false=some ():=by
 have r:uO (fun last:Bool=>(bif last then some (.inr ())else some (.inl true):Option (Bool⊕Unit))) 2 false ():=.step (t:=true) rfl (.stop rfl)
 exact r.iter (by decide)
theorem OL{x:I9}{s:ab}{p:Int}{t0 t:cN}{w0 e0 w1 w2:Int}{r:bL}{Q:List AV->ab->Prop}(va:jx s x)(h1:pL x=some (t0,w0,e0))(he:(e0 !=0)=true)(agK:xL e0=some false)(h2:sO x=some (t,w1,0))
 (h3:∀F,my (adt F x.g t) p=some (r,w2,0))
 (hq:∀s',Sub s s'->Q [.agg [.sl false 6 r.ak.length (flat r.ak),.int .i64 r.ag.Kind,.int .i64 r.ag.N,.str r.ag.S.b,.sl false 4 r.ag.L.length (flat r.ag.L)],.int .i64 w2,.int .i64 0] s'):FN prog 45 [.ref x.B 0,.int .i64 p] s Q:=by
 refine FO M4 rfl rfl ?_
 rw[Bo]
 have k48:pR prog 90=true:=by kernel_rfl
 have k50:pR prog 28=true:=by kernel_rfl
 simp -implicitDefEqProofs only[go_sem,seval]
 refine P2 (kf:=fun _=>True) (fun(last:Bool) U=>U=(⟨[(0,.ref x.B 0),(1,.int .i64 p),(4,.loc [.sl true 6 0 [],.int .i64 0,.int .i64 0,.str [],.sl true 4 0 []]),(7,.fn (bif last then 28 else 90) [] []),(8,.bool last)],[],s⟩:St)) rfl ?_ ⟨(),SV,trivial⟩
 rintro J last U rfl hb
 cases last with
 |false=>
  simp only[cond_false,aF,iA]at hb
  simp -implicitDefEqProofs only[go_sem,seval,cond_false,k48,true_and]
  refine FE.app (Jg va h1) ?_
  simp -implicitDefEqProofs only[go_sem,seval,he,Bool.not_false,Bool.true_eq_false,Bool.false_eq_true,false_implies,true_implies,true_and,and_true]
  refine FE.app (ON agK) ?_
  simp -implicitDefEqProofs only[go_sem,seval,he,Bool.not_false,Bool.and_true,Bool.true_eq_false,Bool.false_eq_true,false_implies,true_implies,true_and,and_true]
  first|exact hb _ rfl|trace_state
 |true=>
  simp -implicitDefEqProofs only[go_sem,seval,cond_true,k50,true_and]
  refine FE.app (NT va h2) ?_
  have e00:((0:Int)!=0)=false:=rfl
  simp -implicitDefEqProofs only[go_sem,seval,e00,Bool.not_true,Bool.true_eq_false,Bool.false_eq_true,false_implies,true_implies,true_and,and_true]
  refine Pt (t:=t) fun F s' hs' hN=>?_
  simp -implicitDefEqProofs only[go_sem,seval]
  obtain⟨⟨s0,e9⟩,ht⟩:=va
  refine FE.app (Ai (ZK (e9.sub hs') ht hN) (h3 F)) ?_
  simp -implicitDefEqProofs only[go_sem,seval,Bool.not_true,Bool.false_and,Bool.true_eq_false,Bool.false_eq_true,false_implies,true_implies,true_and,and_true]
  first|exact hq s' hs'|trace_state
end Go.AB
end
section
set_option maxRecDepth 100000
namespace Go.AB
open Go
def Rm:List UInt8:=[37,80,68,70,45,49,46,55,10,49,32,48,32,111,98,106,10,60,60,47,80,97,103,101,115,32,50,32,48,32,82,32,47,84,121,112,101,32,47,67,97,116,97,108,111,103,62,62,10,101,110,100,111,98,106,10,50,32,48,32,111,98,106,10,60,60,47,67,111,117,110,116,32,49,32,47,75,105,100,115,32,91,52,32,48,32,82,93,32,47,84,121,112,101,32,47,80,97,103,101,115,62,62,10,101,110,100,111,98,106,10,51,32,48,32,111,98,106,10,55,10,101,110,100,111,98,106,10,52,32,48,32,111,98,106,10,60,60,47,65,32,51,32,48,32,82,32,47,80,97,114,101,110,116,32,50,32,48,32,82,32,47,84,121,112,101,32,47,80,97,103,101,62,62,10,101,110,100,111,98,106,10,116,114,97,105,108,101,114,10,60,60,47,82,111,111,116,32,49,32,48,32,82,62,62,10]
def oA:af:=⟨⟨7,0,⟨[]⟩,[⟨5,0,⟨[80,97,103,101,115]⟩,[]⟩,⟨8,2,⟨[]⟩,[]⟩,⟨5,0,⟨[84,121,112,101]⟩,[]⟩,⟨5,0,⟨[67,97,116,97,108,111,103]⟩,[]⟩]⟩,false,⟨[]⟩⟩
def oB:af:=⟨⟨7,0,⟨[]⟩,[⟨5,0,⟨[67,111,117,110,116]⟩,[]⟩,⟨2,1,⟨[]⟩,[]⟩,⟨5,0,⟨[75,105,100,115]⟩,[]⟩,⟨6,0,⟨[]⟩,[⟨8,4,⟨[]⟩,[]⟩]⟩,⟨5,0,⟨[84,121,112,101]⟩,[]⟩,⟨5,0,⟨[80,97,103,101,115]⟩,[]⟩]⟩,false,⟨[]⟩⟩
def oC:af:=⟨⟨2,7,⟨[]⟩,[]⟩,false,⟨[]⟩⟩
def oD:af:=⟨⟨7,0,⟨[]⟩,[⟨5,0,⟨[65]⟩,[]⟩,⟨8,3,⟨[]⟩,[]⟩,⟨5,0,⟨[80,97,114,101,110,116]⟩,[]⟩,⟨8,2,⟨[]⟩,[]⟩,⟨5,0,⟨[84,121,112,101]⟩,[]⟩,⟨5,0,⟨[80,97,103,101]⟩,[]⟩]⟩,false,⟨[]⟩⟩
def D4:aD:=⟨[oA,oB,oC,oD],1⟩
def pA:bL:=⟨[⟨⟨7,0,⟨[]⟩,[⟨5,0,⟨[65]⟩,[]⟩,⟨8,2,⟨[]⟩,[]⟩,⟨5,0,⟨[84,121,112,101]⟩,[]⟩,⟨5,0,⟨[80,97,103,101]⟩,[]⟩]⟩,false,⟨[]⟩⟩,⟨⟨2,7,⟨[]⟩,[]⟩,false,⟨[]⟩⟩],⟨7,0,⟨[]⟩,[]⟩⟩
def VV:Vz:=sR (fun _=>none) 0 (rC YD 0 Rm)
def UC:mC:=⟨206,[⟨0,206⟩],VV⟩
def t4:cN:=⟨[9,56,111,128],1⟩
theorem Rc:qM=some D4:=by kernel_rfl
theorem Yw:nt D4=some Rm:=by kernel_rfl
theorem aes:pI ⟨206,[],fun _=>none⟩ 0 Rm=some (UC,0):=by
 unfold pI
 rw[if_neg (by decide),if_neg (by decide)]
 refine aw (a:=[⟨0,206⟩]) (by kernel_rfl) ?_
 refine aw (a:=VV) (by kernel_rfl) ?_
 exact aw (a:=[⟨0,206⟩]) (show Fh [] ⟨0,bd (0+(Rm.length:Int))⟩=_ by kernel_rfl) rfl
theorem Yy(F:Nat):my (Ep F D4) 0=some (pA,0,0):=by kernel_rfl
theorem aer:bc (ix pA.ak 0).V ⟨[65]⟩=some (⟨8,2,⟨[]⟩,[]⟩,true):=by kernel_rfl
theorem Yz:k7 pA pA=some true:=by kernel_rfl
theorem YA:pE pA pA=some true:=by kernel_rfl
theorem YB:pE pA ⟨[],⟨0,0,⟨[]⟩,[]⟩⟩=some false:=by kernel_rfl
theorem Yx(B:Nat):pL ⟨B,UC⟩=some (⟨[],0⟩,0,22):=by kernel_rfl
theorem aaL(B:Nat):sO ⟨B,UC⟩=some (t4,0,0):=by kernel_rfl
theorem aaM(F:Nat):my (adt F UC t4) 0=some (pA,0,0):=by kernel_rfl
end Go.AB
end
section
set_option maxRecDepth 4000
namespace Go.AB
open Go
open Go.Proofs.Tryz (prog)
attribute[-go_sem] cu dj bO ct Nat.add_zero mV bS
def vC:IC:=
 (ae [cZ 0 (.bool false)] []
 (ae [i1 11 (.call 43 []),c1 12 18 11,i1 13 (.call 17 [(.t 12),(.c (.int .i64 0))]),gi 10 13,ex 14 10 0,ex 15 10 1,ex 16 10 2,i1 1 (.an [.sl true 6 0 [],.int .i64 0,.int .i64 0,.str [],.sl true 4 0 []]),st 5 1 14,mv 2 15,mv 3 16] [1,2,3]
 (ae [i1 17 (.call 43 []),c1 18 44 17,mt 4 18] [1,2,3,4]
 (ae [mt 20 4,c1 21 29 20,i1 22 (.call 45 [(.t 21),(.c (.int .i64 0))]),gi 19 22,ex 23 19 0,ex 24 19 1,ex 25 19 2,i1 5 (.an [.sl true 6 0 [],.int .i64 0,.int .i64 0,.str [],.sl true 4 0 []]),st 5 5 23,mv 6 24,mv 7 25] [1,2,3,5,6,7]
 (ae [i1 26 (.build gj []),i1 8 (.an gj),st 4 8 26,cZ 9 (.bool false)] [1,2,3,5,6,7,8,9]
 (.seq (ae [fa 27 0 1,ld 28 1 27,le 29 0 28,bn 30 .eql 29 2] [1,2,3,5,6,7,8,9,30]
 (.cond (.t 30) (.bJ none [fa 32 0 1,ld 33 1 32,i1 34 (.indexAddr TR (.t 33) (.c (.int .i64 0))),fa 35 0 34,lm 36 4 35,i1 37 (.call 37 [(.t 36),(.c (.str [65]))]),gi 31 37,ex 38 31 0,ex 39 31 1,st 4 8 38,mv 9 39] [1,2,3,5,6,7,8,9])
 .skip))
 (ae [mv 40 2,bn 41 .eql 40 0,mv 42 41,df 43 3 42 true,ju 44 42 true .eql 43 0,pf 45 42 44,mv 46 45,df 47 6 46 true,ju 48 46 true .eql 47 0,pf 49 46 48,mv 50 49,df 51 7 50 true,ju 52 50 true .eql 51 0,pf 53 50 52,mv 54 53,df 55 9 54 true,pf 56 54 55,mv 57 56,fg 58 57 true 0 8,lg 59 57 true 1 58,ju 60 57 true .eql 59 8,pf 61 57 60,mv 62 61,fg 63 62 true 1 8,lg 64 62 true 1 63,ju 65 62 true .eql 64 2,pf 66 62 65,mv 67 66,fg 68 67 true 0 1,lg 69 67 true 1 68,du 70 67 true (.indexAddr TR (.t 69) (.c (.int .i64 0))),fg 71 67 true 0 70,fg 72 67 true 3 71,lg 73 67 true 1 72,du 74 67 true (.len 0 (.t 73)),ju 75 67 true .eql 74 4,pf 76 67 75,mv 77 76,fg 78 77 true 0 1,lg 79 77 true 1 78,du 80 77 true (.indexAddr TR (.t 79) (.c (.int .i64 1))),fg 81 77 true 0 80,fg 82 77 true 1 81,lg 83 77 true 1 82,ju 84 77 true .eql 83 7,pf 85 77 84,mv 86 85,du 87 86 true (.load 5 true (.t 1)),du 88 86 true (.load 5 true (.t 5)),qd2 89 86 true 21 87 88,pf 90 86 89,mv 91 90,du 92 91 true (.load 5 true (.t 1)),du 93 91 true (.load 5 true (.t 5)),qd2 94 91 true 25 92 93,pf 95 91 94,mv 96 95,du 97 96 true (.load 5 true (.t 1)),du 98 96 true (.build [.sl false 6 0 [],.int .i64 0,.int .i64 0,.str [],.sl false 4 0 []] []),qd2 99 96 true 25 97 98,du 100 96 true (.un .not (.t 99)),pf 101 96 100,mv 0 101] [0]
 .ret)))))))
theorem GY:aE prog 16 102 [⟨0,true,none⟩] vC=true:=by kernel_rfl
theorem Rg{s:ab}{Q:List AV->ab->Prop}(hq:∀s',Sub s s'->Q [.bool true] s'):FN prog 16 [] s Q:=by
 refine FO GY rfl rfl ?_
 rw[vC]
 simp -implicitDefEqProofs only[go_sem,Nat.reduceBEq,Nat.reduceAdd,Nat.reduceMul,Nat.reduceLeDiff,Nat.reduceEqDiff,Nat.reduceBNe,UInt8.reduceToNat,UInt32.reduceToNat]
 refine FE.app (wq Rc) ?_
 simp -implicitDefEqProofs only[go_sem,Nat.reduceBEq,Nat.reduceAdd,Nat.reduceMul,Nat.reduceLeDiff,Nat.reduceEqDiff,Nat.reduceBNe,UInt8.reduceToNat,UInt32.reduceToNat]
 refine An (as1:=[.agg (YU D4)]) (by rfl) (Gi (d:=D4) fun F db s1 hs1 hF hdb=>?_)
 simp -implicitDefEqProofs only[go_sem,Nat.reduceBEq,Nat.reduceAdd,Nat.reduceMul,Nat.reduceLeDiff,Nat.reduceEqDiff,Nat.reduceBNe,UInt8.reduceToNat,UInt32.reduceToNat]
 refine FE.app (Ai (f_0:=Ep F D4) (Tp (by decide) hF hdb) (Yy F)) ?_
 simp -implicitDefEqProofs only[go_sem,Nat.reduceBEq,Nat.reduceAdd,Nat.reduceMul,Nat.reduceLeDiff,Nat.reduceEqDiff,Nat.reduceBNe,UInt8.reduceToNat,UInt32.reduceToNat]
 refine FE.app (wq Rc) ?_
 simp -implicitDefEqProofs only[go_sem,Nat.reduceBEq,Nat.reduceAdd,Nat.reduceMul,Nat.reduceLeDiff,Nat.reduceEqDiff,Nat.reduceBNe,UInt8.reduceToNat,UInt32.reduceToNat]
 refine FE.app (CO Yw) ?_
 simp -implicitDefEqProofs only[go_sem,Nat.reduceBEq,Nat.reduceAdd,Nat.reduceMul,Nat.reduceLeDiff,Nat.reduceEqDiff,Nat.reduceBNe,UInt8.reduceToNat,UInt32.reduceToNat]
 refine An (as1:=[.sl false 1 Rm.length (flat Rm)]) (by rfl) (E8 (l:=Rm) (by decide) ⟨(UC,0),aes,fun B s2 e9=>?_⟩)
 simp -implicitDefEqProofs only[go_sem,Nat.reduceBEq,Nat.reduceAdd,Nat.reduceMul,Nat.reduceLeDiff,Nat.reduceEqDiff,Nat.reduceBNe,UInt8.reduceToNat,UInt32.reduceToNat]
 refine OL (x:=⟨B,UC⟩) ⟨⟨s1,e9⟩,(by decide:(206:Int)<=2147483647)⟩ (Yx B) rfl (by kernel_rfl) (aaL B) aaM fun s3 hs3=>?_
 have ft:Sub s s3:=fun b o hb=>hs3 b o (e9.1 b o (hs1 b o hb))
 have p2:(pA.ak.length:Int)=2:=rfl
 have e2:((2:Int)==2)=true:=rfl
 have e0:((0:Int)==0)=true:=rfl
 simp -implicitDefEqProofs only[go_sem,Nat.reduceBEq,Nat.reduceAdd,Nat.reduceMul,Nat.reduceLeDiff,Nat.reduceEqDiff,Nat.reduceBNe,UInt8.reduceToNat,UInt32.reduceToNat,p2,e2,e0,Bool.true_eq_false,Bool.false_eq_true,false_implies,true_implies,true_and,and_true]
 have abF:pad [.int .i64 0,.int .i64 0,.str [],.sl false 4 0 [],.bool false,.str []] (views (AB.sub (flat pA.ak) 0 6))=[.int .i64 (ix pA.ak 0).V.Kind,.int .i64 (ix pA.ak 0).V.N,.str (ix pA.ak 0).V.S.b,.sl false 4 (ix pA.ak 0).V.L.length (flat (ix pA.ak 0).V.L),.bool (ix pA.ak 0).Stream,.str (ix pA.ak 0).Data.b]:=wI pA.ak 0
 have ahD:pad [.int .i64 0,.int .i64 0,.str [],.sl false 4 0 [],.bool false,.str []] (views (AB.sub (flat pA.ak) 6 6))=[.int .i64 (ix pA.ak 1).V.Kind,.int .i64 (ix pA.ak 1).V.N,.str (ix pA.ak 1).V.S.b,.sl false 4 (ix pA.ak 1).V.L.length (flat (ix pA.ak 1).V.L),.bool (ix pA.ak 1).Stream,.str (ix pA.ak 1).Data.b]:=wI pA.ak 1
 have i2:(0:Int)<=0/\(0:Int)<2:=by decide
 have i3:(0:Int)<=1/\(1:Int)<2:=by decide
 have f1:(((ix pA.ak 0).V.L.length:Int)==4)=true:=rfl
 have f2:((ix pA.ak 1).V.N==7)=true:=rfl
 have f3:((8:Int)==8)=true:=rfl
 refine⟨i2,?_⟩
 simp -implicitDefEqProofs only[go_sem,Nat.reduceBEq,Nat.reduceAdd,Nat.reduceMul,Nat.reduceLeDiff,Nat.reduceEqDiff,Nat.reduceBNe,UInt8.reduceToNat,UInt32.reduceToNat,abF]
 refine FE.app (fH aer) ?_
 simp -implicitDefEqProofs only[go_sem,Nat.reduceBEq,Nat.reduceAdd,Nat.reduceMul,Nat.reduceLeDiff,Nat.reduceEqDiff,Nat.reduceBNe,UInt8.reduceToNat,UInt32.reduceToNat,p2,abF,ahD,e0,e2,f1,f2,f3,Bool.true_eq_false,Bool.false_eq_true,false_implies,true_implies,true_and,and_true,Bool.and_self]
 refine⟨i2,by decide,FE.app (y5 Yz) ?_⟩
 simp -implicitDefEqProofs only[go_sem,Nat.reduceBEq,Nat.reduceAdd,Nat.reduceMul,Nat.reduceLeDiff,Nat.reduceEqDiff,Nat.reduceBNe,UInt8.reduceToNat,UInt32.reduceToNat,Bool.true_eq_false,Bool.false_eq_true,false_implies,true_implies,true_and,and_true,Bool.and_self]
 refine FE.app (B9 YA) ?_
 simp -implicitDefEqProofs only[go_sem,Nat.reduceBEq,Nat.reduceAdd,Nat.reduceMul,Nat.reduceLeDiff,Nat.reduceEqDiff,Nat.reduceBNe,UInt8.reduceToNat,UInt32.reduceToNat,Bool.true_eq_false,Bool.false_eq_true,false_implies,true_implies,true_and,and_true,Bool.and_self]
 refine An (as1:=[.agg [.sl false 6 pA.ak.length (flat pA.ak),.int .i64 pA.ag.Kind,.int .i64 pA.ag.N,.str pA.ag.S.b,.sl false 4 pA.ag.L.length (flat pA.ag.L)],.agg [.sl false 6 0 (flat ([]:List af)),.int .i64 0,.int .i64 0,.str [],.sl false 4 0 (flat ([]:List aa))]]) (by rfl) (FE.app (B9 (b_1:=⟨[],⟨0,0,⟨[]⟩,[]⟩⟩) YB) ?_)
 simp -implicitDefEqProofs only[go_sem,Nat.reduceBEq,Nat.reduceAdd,Nat.reduceMul,Nat.reduceLeDiff,Nat.reduceEqDiff,Nat.reduceBNe,UInt8.reduceToNat,UInt32.reduceToNat,Bool.true_eq_false,Bool.false_eq_true,false_implies,true_implies,true_and,and_true,Bool.and_self,Bool.not_false]
 exact hq s3 ft
end Go.AB
end
section
set_option maxRecDepth 4000
namespace Go.AB
open Go
open Go.Proofs.Tryz (prog)
attribute[-go_sem] cu dj bO ct Nat.add_zero mV bS
def eJ:Nat->aa->Option (Bool)
 |0,_=>none
 |fuel+1,v_0=>
  yS (
   jY (
    iter (fun(k3:Int)=>
     if decide (k3<(v_0.L.length:Int))then
      aB (0<=k3/\k3<v_0.L.length)<|
      aJ (eJ fuel (ix v_0.L k3)) fun r6=>
      if !r6 then
       some (.inr (.inr false))
      else
       some (.inl (bd (k3+1)))
     else
      some (.inr (.inl ()))) 0) (fun(_:Unit)=>
    some (.inl ()))
   (fun(t5:Bool)=>some (.inr t5))) (fun(_:Unit)=>
   some (decide ((v_0.S.b.length:Int)<=300)))
  (fun(t2:Bool)=>some t2)
def vN:IC:=
 (ae [i1 1 (.b8 4 (.t 0)),cZ 2 (.bool false)] [1]
 (.join [(1,false)] (ae [mi 3 0] [1,3]
 (.block 0 (.loop [(1,false),(3,false)] (.seq (ae [mv 4 3,fa 5 3 1,ld 6 1 5,le 7 0 6,bt 8 .lss 4 7] [1,3,8]
 (.cond (.t 8) .skip
 (.exit 0)))
 (.seq (.block 1 (ae [fa 11 3 1,ld 12 1 11,mv 13 3,ia 14 pr 12 13,lm 15 4 14,c1 16 83 15,no 17 16] [1,3,17]
 (.cond (.t 17) (ae [cZ 2 (.bool false)] [2]
 .ret)
 .skip)))
 (.bJ none [mv 9 3,bn 10 .add 9 1,mv 3 10] [1,3]))))))
 (ae [fa 18 2 1,ld 19 1 18,le 20 1 19,bn 21 .leq 20 300,mv 2 21] [2]
 .ret)))
theorem Hh:aE prog 83 22 [⟨2,true,none⟩] vN=true:=by kernel_rfl
theorem Io{fuel:Nat}:∀{v_0:aa}{s:ab}{Q:List AV->ab->Prop},ok (eJ fuel v_0) (fun r=>Q [.bool r] s)->FN prog 83 [oV v_0] s Q:=by
 induction fuel with
 |zero=>intros;rename_i h;rw[eJ]at h;exact absurd h (by rw[ok_none];exact fun h=>h)
 |succ fuel ih=>
 have AW:∀{v_0:aa}{s:ab}{r:Bool},eJ fuel v_0=some r->FE prog 83 [oV v_0] s [.bool r] s:=fun h=>ih ⟨_,h,rfl,rfl⟩
 intro v_0 s Q
 intro h
 refine FO Hh rfl rfl ?_
 revert h
 rw[vN,eJ]
 repeat'(first
  |(with_reducible first|exact bW|refine bj ?_ ?_|refine ch ?_|refine ah (fun _(h:eJ fuel (ix v_0.L k3)=some _)=>AW h) (fun r6=>?_))
  |((with_reducible refine aY (fun(k3:Int)=>⟨[(1,.loc [.int .i64 v_0.Kind,.int .i64 v_0.N,.str v_0.S.b,sF 4 v_0.L]),(3,.int .i64 k3)],[],s⟩) ?_ ?_);(first|exact rfl|simp -implicitDefEqProofs only[go_sem,seval]);rintro J k3)
  |((with_reducible refine dD (fun(_:Unit)=>⟨[(1,.loc [.int .i64 v_0.Kind,.int .i64 v_0.N,.str v_0.S.b,sF 4 v_0.L])],[],s⟩) (fun J=>?_) ?_);rotate_left;rintro _)
  |simp -implicitDefEqProofs only[go_sem,seval])
theorem Im{fuel:Nat}{v_0}{s:ab}{r:Bool}(h:eJ fuel v_0=some r):FE prog 83 [oV v_0] s [.bool r] s:=Io ⟨r,h,rfl,rfl⟩
def fQ:Nat->aa->Int->Option (Int)
 |0,_,_=>none
 |fuel+1,v_0,qc=>
  jn (
   iter (fun((wu,k3):Int×Int)=>
    if(decide (k3<(v_0.L.length:Int)))&&(decide (wu>=0))then
     aB (0<=k3/\k3<v_0.L.length)<|
     aJ (fQ fuel (ix v_0.L k3) wu) fun r5=>
     some (.inl (r5,bd (k3+1)))
    else
     some (.inr wu)) (bd (qc -1),0)) fun(TG:Int)=>
  some TG
def A5:IC:=
 (ae [i1 2 (.b8 4 (.t 0)),mi 4 0] [1,2]
 (ae [mv 6 1,bn 7 .sub 6 1,mv 1 7] [1,2]
 (.join [(1,false)] (ae [mi 5 0] [1,2,5]
 (.block 0 (.loop [(1,false),(2,false),(5,false)] (.seq (ae [mv 8 5,fa 9 3 2,ld 10 1 9,le 11 0 10,bt 12 .lss 8 11,mv 13 12,df 14 1 13 true,ju 15 13 true .geq 14 0,pf 16 13 15] [1,2,5,16]
 (.cond (.t 16) .skip
 (.exit 0)))
 (.seq (.block 1 (.bJ none [fa 19 3 2,ld 20 1 19,mv 21 5,ia 22 pr 20 21,lm 23 4 22,mv 24 1,c2 25 22 23 24,mv 1 25] [1,2,5]))
 (.bJ none [mv 17 5,bn 18 .add 17 1,mv 5 18] [1,2,5]))))))
 (ae [mv 26 1,mv 4 26] [4]
 .ret))))
theorem ML:aE prog 22 27 [⟨4,true,none⟩] A5=true:=by kernel_rfl
theorem Nx{fuel:Nat}:∀{v_0:aa}{qc:Int}{s:ab}{Q:List AV->ab->Prop},ok (fQ fuel v_0 qc) (fun r=>Q [.int .i64 r] s)->FN prog 22 [oV v_0,.int .i64 qc] s Q:=by
 induction fuel with
 |zero=>intros;rename_i h;rw[fQ]at h;exact absurd h (by rw[ok_none];exact fun h=>h)
 |succ fuel ih=>
 have AW:∀{v_0:aa}{qc:Int}{s:ab}{r:Int},fQ fuel v_0 qc=some r->FE prog 22 [oV v_0,.int .i64 qc] s [.int .i64 r] s:=fun h=>ih ⟨_,h,rfl,rfl⟩
 intro v_0 qc s Q
 intro h
 refine FO ML rfl rfl ?_
 revert h
 rw[A5,fQ]
 repeat'(first
  |(with_reducible first|exact bW|refine bj ?_ ?_|refine ch ?_|refine ah (fun _(h:fQ fuel (ix v_0.L k3) wu=some _)=>AW h) (fun r5=>?_))
  |((with_reducible refine aY (fun((wu,k3):Int×Int)=>⟨[(1,.int .i64 wu),(2,.loc [.int .i64 v_0.Kind,.int .i64 v_0.N,.str v_0.S.b,sF 4 v_0.L]),(5,.int .i64 k3)],[],s⟩) ?_ ?_);(first|exact rfl|simp -implicitDefEqProofs only[go_sem,seval]);rintro J ⟨wu,k3⟩)
  |((with_reducible refine bT (fun(TG:Int)=>⟨[(1,.int .i64 TG)],[],s⟩) (fun J=>?_) ?_);rotate_left;rintro TG)
  |simp -implicitDefEqProofs only[go_sem,seval])
theorem Nw{fuel:Nat}{v_0 qc}{s:ab}{r:Int}(h:fQ fuel v_0 qc=some r):FE prog 22 [oV v_0,.int .i64 qc] s [.int .i64 r] s:=Nx ⟨r,h,rfl,rfl⟩
def ly(o_0:af)(u7:Int):Option (Bool):=
 aJ (fQ iu o_0.V 300) fun r1=>
 aJ (mB ((decide (r1>=0))&&(decide ((o_0.Data.b.length:Int)<=u7))) false (eJ iu o_0.V)) fun r2=>
 some (((decide (r1>=0))&&(decide ((o_0.Data.b.length:Int)<=u7)))&&r2)
def A8:IC:=
 (ae [i1 2 (.b8 6 (.t 0)),cZ 4 (.bool false)] [1,2]
 (.seq (.bJ (some 15) [fa 5 0 2,lm 6 4 5,i1 7 (.call 22 [(.t 6),(.c (.int .i64 300))]),bn 8 .geq 7 0,mv 9 8,fg 10 9 true 5 2,lg 11 9 true 1 10,du 12 9 true (.len 1 (.t 11)),df 13 1 9 true,rF 14 9 true .leq 12 13,pf 15 9 14,mv 16 15,fg 17 16 true 0 2,du 18 16 true (.load 4 true (.t 17)),SI 19 16 true 83 18,pf 20 16 19,mv 4 20] [4])
 .ret))
theorem MO:aE prog 42 21 [⟨4,true,none⟩] A8=true:=by kernel_rfl
theorem NC{o_0 u7}{s:ab}{Q:List AV->ab->Prop}:ok (ly o_0 u7) (fun r=>Q [.bool r] s)->FN prog 42 [.agg [.int .i64 o_0.V.Kind,.int .i64 o_0.V.N,.str o_0.V.S.b,sF 4 o_0.V.L,.bool o_0.Stream,.str o_0.Data.b],.int .i64 u7] s Q:=by
 intro h
 refine FO MO rfl rfl ?_
 revert h
 rw[A8,ly]
 repeat'(first
  |(with_reducible first|refine ba (fun _(h:fQ iu o_0.V 300=some _)=>Nw h) (fun _=>rfl) (fun r1=>?_)|refine fP rfl (fun _(h:eJ iu o_0.V=some _)=>Im h) (fun _=>rfl) (fun r2=>?_))
  |simp -implicitDefEqProofs only[go_sem,seval])
theorem NB{o_0 u7}{s:ab}{r:Bool}(h:ly o_0 u7=some r):FE prog 42 [.agg [.int .i64 o_0.V.Kind,.int .i64 o_0.V.N,.str o_0.V.S.b,sF 4 o_0.V.L,.bool o_0.Stream,.str o_0.Data.b],.int .i64 u7] s [.bool r] s:=NC ⟨r,h,rfl,rfl⟩
def lA(l_0:(List af))(zW:Int):Option (Bool):=
 if decide ((l_0.length:Int)>zW)then
  some false
 else
  yS (
   jY (
    iter (fun(k2:Int)=>
     if decide (k2<(l_0.length:Int))then
      aB (0<=k2/\k2<l_0.length)<|
      aJ (ly (ix l_0 k2) 300) fun r4=>
      if !r4 then
       some (.inr (.inr false))
      else
       some (.inl (bd (k2+1)))
     else
      some (.inr (.inl ()))) 0) (fun(_:Unit)=>
    some (.inl ()))
   (fun(t3:Bool)=>some (.inr t3))) (fun(_:Unit)=>
   some true)
  (fun(t1:Bool)=>some t1)
def A9:IC:=
 (ae [cZ 4 (.bool false)] [0,1]
 (.seq (ae [mv 6 0,le 7 0 6,mv 8 1,bt 9 .gtr 7 8] [0,9]
 (.cond (.t 9) (ae [cZ 4 (.bool false)] [4]
 .ret)
 .skip))
 (.join [] (ae [mi 5 0] [0,5]
 (.block 0 (.loop [(0,true),(5,false)] (.seq (ae [mv 10 5,mv 11 0,le 12 0 11,bt 13 .lss 10 12] [0,5,13]
 (.cond (.t 13) .skip
 (.exit 0)))
 (.seq (.block 1 (ae [mv 16 0,mv 17 5,ia 18 TR 16 17,lm 19 6 18,i1 20 (.call 42 [(.t 19),(.c (.int .i64 300))]),no 21 20] [0,5,21]
 (.cond (.t 21) (ae [cZ 4 (.bool false)] [4]
 .ret)
 .skip)))
 (.bJ none [mv 14 5,bn 15 .add 14 1,mv 5 15] [0,5]))))))
 (ae [cZ 4 (.bool true)] [4]
 .ret))))
theorem MP:aE prog 15 22 [⟨4,true,none⟩] A9=true:=by kernel_rfl
theorem ND{l_0 zW}{s:ab}{Q:List AV->ab->Prop}:ok (lA l_0 zW) (fun r=>Q [.bool r] s)->FN prog 15 [sF 6 l_0,.int .i64 zW] s Q:=by
 intro h
 refine FO MP rfl rfl ?_
 revert h
 rw[A9,lA]
 repeat'(first
  |(with_reducible first|exact bW|refine bj ?_ ?_|refine ch ?_|refine ah (fun _(h:ly (ix l_0 k2) 300=some _)=>NB h) (fun r4=>?_))
  |((with_reducible refine aY (fun(k2:Int)=>⟨[(0,sF 6 l_0),(5,.int .i64 k2)],[],s⟩) ?_ ?_);(first|exact rfl|simp -implicitDefEqProofs only[go_sem,seval]);rintro J k2)
  |((with_reducible refine dD (fun(_:Unit)=>⟨[],[],s⟩) (fun J=>?_) ?_);rotate_left;rintro _)
  |simp -implicitDefEqProofs only[go_sem,seval])
theorem BO{l_0 zW}{s:ab}{r:Bool}(h:lA l_0 zW=some r):FE prog 15 [sF 6 l_0,.int .i64 zW] s [.bool r] s:=ND ⟨r,h,rfl,rfl⟩
end Go.AB
end
section
set_option maxRecDepth 4000
namespace Go.AB
open Go
open Go.Proofs.Tryz (prog)
attribute[-go_sem] cu dj bO ct Nat.add_zero mV bS
end Go.AB
end
section
set_option maxRecDepth 4000
namespace Go.AB
open Go
open Go.Proofs.Tryz (prog)
attribute[-go_sem] cu dj bO ct Nat.add_zero mV bS
def l8:IC:=
 (ae [i1 2 (.b8 2 (.t 0)),cZ 4 (.bool false)] [1,2]
 (.seq (ae [fa 11 0 2,ld 12 1 11,i1 13 (.call 15 [(.t 12),(.c (.int .i64 40))]),no 14 13] [1,2,14]
 (.cond (.t 14) (ae [i1 15 (.call 16 []),mv 4 15] [4]
 .ret)
 .skip))
 (ae [lm 17 2 2,c1 18 18 17,mv 19 1,c2 20 17 18 19,gi 16 20,ex 21 16 0,ex 22 16 1,ex 23 16 2,i1 5 (.an [.sl true 6 0 [],.int .i64 0,.int .i64 0,.str [],.sl true 4 0 []]),st 5 5 21,mv 6 22,mv 7 23] [1,2,5,6,7]
 (ae [lm 25 2 2,c1 26 20 25,mv 27 1,c2 28 19 26 27,gi 24 28,ex 29 24 0,ex 30 24 1,ex 31 24 2,i1 8 (.an [.sl true 6 0 [],.int .i64 0,.int .i64 0,.str [],.sl true 4 0 []]),st 5 8 29,mv 9 30,mv 10 31] [5,6,7,8,10]
 (ae [lm 32 5 5,lm 33 5 8,c2 34 21 32 33,mv 35 34,df 36 6 35 true,ju 37 35 true .eql 36 0,pf 38 35 37,mv 39 38,df 40 7 39 true,df 41 10 39 true,rF 42 39 true .eql 40 41,pf 43 39 42,mv 44 43,du 45 44 true (.call 16 []),pf 46 44 45,mv 4 46] [4]
 .ret)))))
theorem qJ:aE prog 5 47 [⟨4,true,none⟩] l8=true:=by kernel_rfl
theorem Y7{d:aD}{p:Int}{s:ab}{Q:List AV->ab->Prop}(h:lA d.ak 40=some false)(hq:∀s',Sub s s'->Q [.bool true] s'):FN prog 5 [.agg (YU d),.int .i64 p] s Q:=by
 refine FO qJ rfl rfl ?_
 rw[l8]
 simp -implicitDefEqProofs only[go_sem,seval]
 refine FE.app (BO h) ?_
 simp -implicitDefEqProofs only[go_sem,seval,Bool.not_false,Bool.not_true,Bool.true_eq_false,Bool.false_eq_true,false_implies,true_implies,true_and,and_true]
 refine Rg fun s' hs=>?_
 simp -implicitDefEqProofs only[go_sem,seval]
 exact hq s' hs
theorem Wd{d:aD}{p:Int}{s:ab}{a:bL}{e k:Int}{x:dH}{Q:List AV->ab->Prop}(h:lA d.ak 40=some true)(hl:d.ak.length<=2147483647)(h1:∀F,my (Ep F d) p=some (a,0,e))(h2:wN d=some x)(h3:n9 x p=some (a,k,e))(h4:k7 a a=some true)
 (hq:∀s',Sub s s'->Q [.bool true] s'):FN prog 5 [.agg (YU d),.int .i64 p] s Q:=by
 refine FO qJ rfl rfl ?_
 rw[l8]
 simp -implicitDefEqProofs only[go_sem,seval]
 refine FE.app (BO h) ?_
 simp -implicitDefEqProofs only[go_sem,seval,Bool.not_false,Bool.not_true,Bool.true_eq_false,Bool.false_eq_true,false_implies,true_implies,true_and,and_true]
 refine An (as1:=[.agg (YU d)]) (by rfl) (Gi (d:=d) fun F db s1 hs1 hF hdb=>?_)
 simp -implicitDefEqProofs only[go_sem,seval]
 refine FE.app (Ai (f_0:=Ep F d) (Tp hl hF hdb) (h1 F)) ?_
 simp -implicitDefEqProofs only[go_sem,seval]
 refine FE.app (QD h2) ?_
 simp -implicitDefEqProofs only[go_sem,seval]
 refine FE.app (QG h3) ?_
 simp -implicitDefEqProofs only[go_sem,seval]
 refine FE.app (y5 h4) ?_
 have e0:((0:Int)==0)=true:=rfl
 have ee:(e==e)=true:=beq_self_eq_true e
 simp -implicitDefEqProofs only[go_sem,seval,e0,ee,Bool.not_false,Bool.not_true,Bool.true_eq_false,Bool.false_eq_true,false_implies,true_implies,true_and,and_true]
 refine Rg fun s' hs=>?_
 simp -implicitDefEqProofs only[go_sem,seval,e0,ee,Bool.not_false,Bool.not_true,Bool.true_eq_false,Bool.false_eq_true,false_implies,true_implies,true_and,and_true]
 exact hq s' fun b o hb=>hs b o (hs1 b o hb)
def Tq(d:aD)(p:Int):Prop:=∃b,lA d.ak 40=some b/\(b=true->(d.ak.length:Int)<=40/\∃a e x k,(∀F,my (Ep F d) p=some (a,0,e))/\wN d=some x/\n9 x p=some (a,k,e)/\k7 a a=some true)
theorem Bw{d:aD}{p:Int}{s:ab}(h:Tq d p):FE prog 5 [.agg (YU d),.int .i64 p] s [.bool true] s:=by
 obtain⟨b,h1,h2⟩:=h
 refine FN.forget ?_
 cases b with
 |false=>exact Y7 h1 fun s' hs=>⟨_,hs,rfl,rfl⟩
 |true=>
  obtain⟨hl,a,e,x,k,h3,h4,h5,h6⟩:=h2 rfl
  exact Wd h1 (by omega) h3 h4 h5 h6 fun s' hs=>⟨_,hs,rfl,rfl⟩
end Go.AB
end
section
namespace Go.AB
open Go
theorem kq(v:aa)(key:ar)(h:(v.L.length:Int)<=4611686018427387904):∃r,c6 v key=some r/\-1<=r/\r<v.L.length:=by
 by_cases hk:(v.Kind !=7)=true
 ·refine⟨-1,?_,by omega,by omega⟩
  unfold c6;rw[if_pos hk]
 ·have hit:∃o:Unit⊕Int,iter (fun(i2:Int)=>
   if decide (i2<(v.L.length:Int))then
    aB (0<=i2/\i2<v.L.length)<|
    aB ((((ix v.L i2).Kind)==5)=true->0<=i2/\i2<v.L.length)<|
    if(((ix v.L i2).Kind)==5)&&(((ix v.L i2).S).b==key.b)then
     some (.inr (.inr i2))
    else
     some (.inl (bd (i2+2)))
   else
    some (.inr (.inl ()))) 0=some o/\(∀r,o=.inr r->0<=r/\r<v.L.length):=by
   refine ma (fun i=>0<=i) (fun i=>((v.L.length:Int) -i).toNat) _ (Int.le_refl 0) (by omega) fun i hi=>?_
   by_cases hl:i<(v.L.length:Int)
   ·rw[if_pos (by simpa using hl),dE ⟨hi,hl⟩,dE (fun _=>⟨hi,hl⟩)]
    split
    ·refine⟨_,rfl,?_⟩
     rintro r e;injection e with e;subst e;exact⟨hi,hl⟩
    ·refine⟨_,rfl,?_⟩
     show 0<=bd (i+2)/\((v.L.length:Int) -bd (i+2)).toNat<((v.L.length:Int) -i).toNat
     rw[aI (by omega) (by omega)]
     exact⟨by omega,by omega⟩
   ·rw[if_neg (by simpa using hl)]
    exact⟨_,rfl,fun r e=>by cases e⟩
  obtain⟨o,h1,h2⟩:=hit
  unfold c6
  rw[if_neg hk,h1]
  cases o with
  |inl u=>exact⟨-1,rfl,by omega,by omega⟩
  |inr r=>exact⟨r,rfl,by have:=h2 r rfl;omega,by have:=h2 r rfl;omega⟩
theorem nv(v:aa)(key:ar):fx v key=c6 v key:=by
 unfold fx c6
 by_cases hk:(v.Kind==7)=true
 ·have hk':(v.Kind !=7)=false:=by rw[bne,hk];rfl
  simp only[hk,hk',Bool.true_and,Bool.false_eq_true,if_false]
 ·have hk2:(v.Kind==7)=false:=by simpa using hk
  have hk':(v.Kind !=7)=true:=by rw[bne,hk2];rfl
  rw[iter_eq (o:=.inl ()) (fun _=>True) (fun _=>0) trivial (by decide) fun i _=>.inr (by simp only[hk2,Bool.false_and,Bool.false_eq_true,if_false])]
  simp only[hk',if_true]
  rfl
theorem w7(v:aa)(key:ar)(h:(v.L.length:Int)<=4611686018427387904):∃r,bc v key=some r:=by
 obtain⟨r,h1,h2,h3⟩:=kq v key h
 unfold bc
 rw[h1,aK]
 by_cases h0:r<0
 ·rw[if_pos (by simpa using h0)];exact⟨_,rfl⟩
 ·rw[if_neg (by simpa using h0),aI (by omega) (by omega)]
  by_cases h4:(r+1==(v.L.length:Int))=true
  ·rw[if_pos h4];exact⟨_,rfl⟩
  ·rw[if_neg h4,dE (by have:¬r+1=(v.L.length:Int):=(by simpa using h4);exact⟨by omega,by omega⟩)]
   exact⟨_,rfl⟩
theorem BN(v:aa)(key:ar)(h:(v.L.length:Int)<=4611686018427387904):c9 v key=bc v key:=by
 obtain⟨r,h1,h2,h3⟩:=kq v key h
 unfold c9 bc
 rw[nv,h1,aK,aK]
 by_cases h0:r<0
 ·have e0:(decide (r<0))=true:=by simpa using h0
  simp only[e0,if_true]
 ·have e0:(decide (r<0))=false:=by simpa using h0
  simp only[e0,Bool.false_eq_true,if_false]
  rw[aI (n:=r+1) (by omega) (by omega),aI (n:=(v.L.length:Int) -1) (by omega) (by omega)]
  have e:(r==(v.L.length:Int) -1)=(r+1==(v.L.length:Int)):=by rw[Bool.eq_iff_iff,beq_iff_eq,beq_iff_eq];omega
  rw[e]
theorem Oj(v:aa)(key:ar)(r:aa×Bool)(h:bc v key=some r)(h2:r.2=false):r.1.Kind=0:=by
 unfold bc at h
 cases hf:c6 v key with
 |none=>rw[hf]at h;cases h
 |some i=>
  rw[hf,aK]at h
  split at h
  ·injection h with h;subst h;rfl
  ·split at h
   ·injection h with h;subst h;cases h2
   ·unfold aB at h
    split at h
    ·injection h with h;subst h;cases h2
    ·cases h
end Go.AB
end
section
namespace Go.AB
open Go
def W:Nat->aa->Prop
 |0,_=>False
 |n+1,v=>v.L.length<=n/\∀x∈v.L,W n x
theorem FM:∀(n m:Nat)(v:aa),n<=m->W n v->W m v
 |0,_,_,_,h=>h.elim
 |n+1,0,_,hm,_=>by omega
 |n+1,m+1,v,hm,h=>⟨by have:=h.1;omega,fun x hx=>FM n m x (by omega) (h.2 x hx)⟩
def oY:Nat->aa->Nat
 |0,_=>0
 |n+1,v=>1+(v.L.map (oY n)).sum
theorem O9:∀(n m:Nat)(v:aa),n<=m->W n v->oY m v=oY n v
 |0,_,_,_,h=>h.elim
 |n+1,0,_,hm,_=>by omega
 |n+1,m+1,v,hm,h=>by
  show 1+(v.L.map (oY m)).sum=1+(v.L.map (oY n)).sum
  rw[List.map_congr_left fun x hx=>O9 n m x (by omega) (h.2 x hx)]
theorem few(fuel:Nat):∀(v:aa)(left:Int),0<=left->left<fuel->left<=4611686018427387904->∃r,fQ fuel v left=some r/\-1<=r/\r<left/\(0<=r->W left.toNat v/\(oY left.toNat v:Int)<=left -r):=by
 induction fuel with
 |zero=>intro v left h0 h1;omega
 |succ fuel ih=>
  intro v left h0 h1 h2
  rw[fQ]
  have hit:∃o:Int,iter (fun((wu,k3):Int×Int)=>
   if(decide (k3<(v.L.length:Int)))&&(decide (wu>=0))then
    aB (0<=k3/\k3<v.L.length)<|
    aJ (fQ fuel (ix v.L k3) wu) fun r5=>
    some (.inl (r5,bd (k3+1)))
   else
    some (.inr wu)) (bd (left -1),0)=some o/\(-1<=o/\o<left/\(0<=o->W left.toNat v/\(oY left.toNat v:Int)<=left -o)):=by
   rw[aI (by omega) (by omega)]
   refine ma (fun s=>0<=s.2/\-1<=s.1/\s.2+s.1<=left -1/\s.2<=(v.L.length:Int)/\(0<=s.1->(∀j:Nat,(j:Int)<s.2->W (left -1).toNat (ix v.L (j:Int)))/\(((v.L.take s.2.toNat).map (oY (left -1).toNat)).sum:Int)<=left -1 -s.1)) (fun s=>(s.1+1).toNat) _ ?h (by show(left -1+1).toNat<_;omega) ?s
   case h=>exact⟨Int.le_refl 0,by show -1<=left -1;omega,by show 0+(left -1)<=left -1;omega,by show(0:Int)<=_;omega,fun _=>⟨fun j hj=>by have:(j:Int)<0:=hj;omega,by show(0:Int)<=left -1 -(left -1);omega⟩⟩
   case s=>
    intro s hs
    obtain⟨l2,k⟩:=s
    obtain⟨i1,i2,i3,i4,i5⟩:=hs
    simp only at i1 i2 i3 i4 i5
    by_cases hc:k<(v.L.length:Int)/\0<=l2
    ·have e:((decide (k<(v.L.length:Int)))&&(decide (l2>=0)))=true:=by simp;exact⟨hc.1,hc.2⟩
     obtain⟨r,h3,h4,h5,h6⟩:=ih (ix v.L k) l2 hc.2 (by omega) (by omega)
     simp only[e,if_true]
     rw[dE ⟨i1,hc.1⟩,h3,aK]
     refine⟨_,rfl,?_⟩
     rw[aI (by omega) (by omega)]
     refine⟨⟨by show 0<=k+1;omega,h4,by show k+1+r<=left -1;omega,by show k+1<=_;omega,fun hr=>?_⟩,by show(r+1).toNat<(l2+1).toNat;omega⟩
     have hr':0<=r:=hr
     obtain⟨i6,i7⟩:=i5 hc.2
     obtain⟨h7,h8⟩:=h6 hr'
     refine⟨fun j hj=>?_,?_⟩
     ·have hj':(j:Int)<k+1:=hj
      by_cases hjk:(j:Int)<k
      ·exact i6 j hjk
      ·rw[show(j:Int)=k by omega]
       exact FM _ _ _ (by omega) h7
     ·have hk:k.toNat<v.L.length:=by omega
      show(((v.L.take (k+1).toNat).map (oY (left -1).toNat)).sum:Int)<=left -1 -r
      rw[show(k+1).toNat=k.toNat+1 by omega,List.take_succ_eq_append_getElem hk,List.map_append,List.sum_append]
      have e2:ix v.L k=v.L[k.toNat]:=oP hk
      rw[e2]at h7 h8
      have e3:=O9 l2.toNat (left -1).toNat _ (by omega) h7
      simp only[List.map_cons,List.map_nil,List.sum_cons,List.sum_nil,Nat.add_zero]
      rw[e3]
      push_cast
      omega
    ·have e:((decide (k<(v.L.length:Int)))&&(decide (l2>=0)))=false:=by
      cases h:((decide (k<(v.L.length:Int)))&&(decide (l2>=0)))with
      |false=>rfl
      |true=>simp at h;exact(hc ⟨h.1,h.2⟩).elim
     simp only[e,Bool.false_eq_true,if_false]
     refine⟨_,rfl,i2,by show l2<left;omega,fun hl=>?_⟩
     have hl':0<=l2:=hl
     have hk:k=(v.L.length:Int):=by
      by_cases h:k<(v.L.length:Int)
      ·exact(hc ⟨h,hl'⟩).elim
      ·omega
     obtain⟨m,hm⟩:∃m,left.toNat=m+1:=⟨left.toNat -1,by omega⟩
     rw[hm]
     obtain⟨i6,i7⟩:=i5 hl'
     have em:(left -1).toNat=m:=by omega
     rw[em]at i6 i7
     refine⟨⟨by omega,fun x hx=>?_⟩,?_⟩
     ·obtain⟨j,hj,rfl⟩:=List.getElem_of_mem hx
      have:=i6 j (by omega)
      rw[fu hj]at this
      exact this
     ·rw[hk,show((v.L.length:Int)).toNat=v.L.length from rfl,List.take_length]at i7
      show((1+(v.L.map (oY m)).sum:Nat):Int)<=left -l2
      push_cast
      omega
  obtain⟨o,h3,h4⟩:=hit
  rw[h3]
  exact⟨o,rfl,h4⟩
theorem texts:∀(n:Nat)(v:aa)(fuel:Nat),W n v->n<=fuel->n<=4611686018427387904->∃b,eJ fuel v=some b
 |0,_,_,h,_,_=>h.elim
 |n+1,_,0,_,h,_=>by omega
 |n+1,v,fuel+1,h,hf,hn=>by
  rw[eJ]
  have hit:∃o:Unit⊕Bool,iter (fun(k3:Int)=>
   if decide (k3<(v.L.length:Int))then
    aB (0<=k3/\k3<v.L.length)<|
    aJ (eJ fuel (ix v.L k3)) fun r6=>
    if !r6 then
     some (.inr (.inr false))
    else
     some (.inl (bd (k3+1)))
   else
    some (.inr (.inl ()))) 0=some o/\True:=by
   refine ma (fun k=>0<=k) (fun k=>((v.L.length:Int) -k).toNat) _ (Int.le_refl 0) (by have:=h.1;omega) fun k hk=>?_
   by_cases hl:k<(v.L.length:Int)
   ·rw[if_pos (by simpa using hl),dE ⟨hk,hl⟩]
    obtain⟨b,hb⟩:=texts n (ix v.L k) fuel (by
     rw[oP (by omega)]
     exact h.2 _ (List.getElem_mem _)) (by omega) (by omega)
    rw[hb,aK]
    cases b with
    |false=>exact⟨_,rfl,trivial⟩
    |true=>
     refine⟨_,rfl,?_⟩
     have:=h.1
     show 0<=bd (k+1)/\((v.L.length:Int) -bd (k+1)).toNat<((v.L.length:Int) -k).toNat
     rw[aI (by omega) (by omega)]
     exact⟨by omega,by omega⟩
   ·rw[if_neg (by simpa using hl)]
    exact⟨_,rfl,trivial⟩
  obtain⟨o,h1,_⟩:=hit
  rw[h1]
  cases o with
  |inl u=>exact⟨_,rfl⟩
  |inr b=>exact⟨_,rfl⟩
end Go.AB
end
