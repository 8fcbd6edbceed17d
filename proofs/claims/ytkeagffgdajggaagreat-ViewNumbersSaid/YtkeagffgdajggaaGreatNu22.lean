/- A part of the proof: Tn. -/
import Derived.Test.YtkeagffgdajggaaGreatNu13
import Derived.Test.YtkeagffgdajggaaGreatNu21
import Derived.Test.YtkeagffgdajggaaGreatNu15
set_option linter.unusedSimpArgs false
set_option linter.unusedVariables false
section
set_option maxRecDepth 4000
namespace Go.AB
open Go
open Go.Proofs.Tryz (prog)
attribute[-go_sem] cE da bM cD Nat.add_zero nr bV
def vB:IC:=
 (af [i1 2 (.dc 4 (.t 0)),i1 4 (.aq iA)] [1,2,4]
 (.seq (af [fa 8 0 2,ld 9 1 8] [1,2,4,9]
 (.block 0 (af [bn 11 .eql 9 8,mv 10 11] [1,2,4,9,10]
 (.cond (.t 10) (.seq (af [fa 12 1 2,ld 13 1 12,bn 14 .lss 13 1,mv 15 14,fg 16 15 false 1 2,lg 17 15 false 1 16,dh 18 1 15 false,dq 19 15 false (.len 0 (.t 18)),sY 20 15 false .gtr 17 19,po 21 15 20,mv 22 21,dh 23 1 22 false,fg 24 22 false 1 2,lg 25 22 false 1 24,kS 26 22 false .sub 25 1,dq 27 22 false (.indexAddr jV (.t 23) (.t 26)),dq 28 22 false (.mh .i64 (.t 27)),kS 29 22 false .eql 28 0,po 30 22 29] [1,2,4,30]
 (.cond (.t 30) (af [i1 31 (.build iA []),st 4 4 31] [4]
 .ret)
 .skip))
 (af [mt 32 1,fa 33 1 2,ld 34 1 33,bn 35 .sub 34 1,ia 36 jV 32 35,ld 37 1 36,fa 38 1 2,st 1 38 37] [2,4]
 (af [fa 39 1 2,ld 40 1 39,i1 41 (.build iA [(0,1,(.c (.int .i64 8))),(1,1,(.t 40))]),st 4 4 41] [4]
 .ret)))
 (.seq (af [bn 43 .eql 9 6,mv 42 43] [1,2,4,9,42]
 (.cond (.t 42) .skip
 (.bN none [bn 44 .eql 9 7,mv 42 44] [1,2,4,42])))
 (.cond (.t 42) (af [fa 45 3 2,ld 46 1 45,le 47 0 46,i1 48 (.fO 4 56 qT (.t 47) (.t 47)),mt 5 48] [1,2,4,5]
 (.seq (af [fa 49 3 2,ld 50 1 49,le 51 0 50,mi 52 0] [1,2,4,5,50,51,52]
 (.block 1 (.loop [(1,false),(2,false),(4,false),(5,false),(50,false),(51,false),(52,false)] (af [bt 53 .lss 52 51] [1,2,4,5,50,51,52,53]
 (.seq (.cond (.t 53) .skip
 (.exit 1))
 (.seq (.block 2 (af [mv 54 52,ia 55 qT 50 52,lm 56 4 55,i1 7 (.aq iA),mv 6 54,st 4 7 56] [1,2,4,5,6,7,50,51,52]
 (.bN none [mv 57 5,mv 58 6,lm 59 4 7,mv 60 1,c2 61 52 59 60,ia 62 qT 57 58,st 4 62 61] [1,2,4,5,50,51,52])))
 (.bN none [bn 63 .add 52 1,mv 52 63] [1,2,4,5,50,51,52])))))))
 (.bN none [i1 64 (.T7 4 true (.t 5)),fa 65 3 2,st 1 65 64] [2,4])))
 .skip))))))
 (af [lm 66 4 2,st 4 4 66] [4]
 .ret)))
theorem GN:aE prog 52 67 [⟨4,false,some (4,true)⟩] vB=true:=by kernel_rfl
def rP:IC:=
 (af [i1 5 (.dc 4 (.t 2)),i1 6 (.aq [.sl true 6 0 [],.int .i64 0,.int .i64 0,.str [],.sl true 4 0 []])] [0,1,5,6]
 (af [i1 13 (.fO 1 8 jV (.c (.int .i64 4096)) (.c (.int .i64 4096))),mt 7 13] [0,1,5,6,7]
 (.seq (af [mt 14 0,le 15 0 14,mi 16 0] [1,5,6,7,14,15,16]
 (.block 0 (.loop [(1,false),(5,false),(6,false),(7,false),(14,false),(15,false),(16,false)] (af [bt 17 .lss 16 15] [1,5,6,7,14,15,16,17]
 (.seq (.cond (.t 17) .skip
 (.exit 0))
 (.seq (.block 1 (af [mv 18 16,ia 19 jV 14 16,ld 20 1 19,mv 8 18,mv 9 20] [1,5,6,7,8,9,14,15,16]
 (af [mv 21 9,bn 22 .geq 21 1,mv 23 22,dh 24 9 23 true,kS 25 23 true .leq 24 4096,pf 26 23 25,mv 27 26,dh 28 7 27 true,dh 29 9 27 true,kS 30 27 true .sub 29 1,dq 31 27 true (.indexAddr jV (.t 28) (.t 30)),dq 32 27 true (.mh .i64 (.t 31)),kS 33 27 true .eql 32 0,pf 34 27 33] [1,5,6,7,8,9,14,15,16,34]
 (.cond (.t 34) (.bN none [mv 35 7,mv 36 9,bn 37 .sub 36 1,mv 38 8,bn 39 .add 38 1,ia 40 jV 35 37,st 1 40 39] [1,5,6,7,14,15,16])
 .skip))))
 (.bN none [bn 41 .add 16 1,mv 16 41] [1,5,6,7,14,15,16])))))))
 (af [lm 42 4 5,mv 43 7,c2 44 52 42 43,i1 45 (.build [.arr 0 0 0 0,.int .i64 0,.int .i64 0,.str [],.sl true 4 0 []] [(1,4,(.t 44))]),i1 10 (.aq [.sl true 6 0 [],.int .i64 0,.int .i64 0,.str [],.sl true 4 0 []]),i0 (.qX 6 5 (.t 10) (.t 45))] [1,6,7,10]
 (.seq (af [mt 46 1,le 47 0 46,mi 48 0] [6,7,10,46,47,48]
 (.block 2 (.loop [(6,false),(7,false),(10,false),(46,false),(47,false),(48,false)] (af [bt 49 .lss 48 47] [6,7,10,46,47,48,49]
 (.seq (.cond (.t 49) .skip
 (.exit 2))
 (.seq (.block 3 (af [mv 50 48,ia 51 Qu 46 48,lm 52 6 51,i1 12 (.aq zz),mv 11 50,st 6 12 52] [6,7,10,11,12,46,47,48]
 (.seq (af [mv 53 11,bn 54 .eql 53 0] [6,7,10,12,46,47,48,54]
 (.cond (.t 54) (.bN none [fa 55 0 12,lm 56 4 55,i1 57 (.call 53 [(.t 56),(.c (.str [80,97,114,101,110,116]))]),fa 58 0 12,st 4 58 57] [6,7,10,12,46,47,48])
 .skip))
 (af [fa 59 0 12,lm 60 4 59,mv 61 7,c2 62 52 60 61,fa 63 0 12,st 4 63 62] [6,7,10,12,46,47,48]
 (.bN none [fa 64 0 10,i1 65 (.jh (.t 64)),lm 66 6 12,i1 67 (.bq 6 1 zz [(0,6,(.t 66))]),UF 68 6 80 65 67,fa 69 0 10,st 1 69 68] [6,7,10,46,47,48])))))
 (.bN none [bn 70 .add 48 1,mv 48 70] [6,7,10,46,47,48])))))))
 (af [lm 71 5 10,st 5 6 71] [6]
 .ret))))))
theorem Cc:aE prog 23 72 [⟨6,false,some (5,true)⟩] rP=true:=by kernel_rfl
theorem KU(l:List Int)(sp:List AV){j:Int}(h0:0<=j)(h:j<l.length):GW .i64 (j.toNat*1) (some (.cells (flat l++sp)))/\GX (j.toNat*1) (some (.cells (flat l++sp)))=ix l j:=by
 have hj:j.toNat<l.length:=by omega
 have e:=sC l sp (i:=j.toNat) (r:=0) hj (by decide)
 have hw:aK.w Int=1:=rfl
 rw[hw,Nat.add_zero]at e
 have e2:(aK.cells l[j.toNat])[0]? =some (.int .i64 l[j.toNat]):=rfl
 rw[e2]at e
 have ei:ix l j=l[j.toNat]:=by unfold ix;simp[hj]
 refine⟨⟨_,e⟩,?_⟩
 show intOf (flat l++sp)[j.toNat*1]? =_
 rw[e,ei]
 rfl
def Qk(L:List aa)(g:aa->Option aa)(q:List aa×Int):Option ((List aa×Int)⊕List aa):=bif decide (q.2<L.length)then aG (0<=q.2/\q.2<q.1.length/\q.2<2^62)<|aW (g (ix L q.2)) fun y=>some (.inl (q.1.set q.2.toNat y,q.2+1))else some (.inr q.1)
def gQ:Nat->aa->List Int->Option aa
 |0,_,_=>none
 |f+1,v,to=>
  bif v.Kind==8 then
   bif decide (v.N<1)||decide (v.N>to.length)then some zV else
   aG (1<=v.N/\v.N<=to.length/\v.N<2^62)<|bif ix to (v.N -1)==0 then some zV else some ⟨8,ix to (v.N -1),⟨[]⟩,[]⟩
  else bif v.Kind==6||v.Kind==7 then
   aG (v.L.length*56<=room)<|aW (iter (Qk v.L (fun x=>gQ f x to)) (List.replicate v.L.length zV,0)) fun l=>some ⟨v.Kind,v.N,v.S,l⟩
  else some v
theorem CQ:∀(f:Nat){v:aa}{to:List Int}{s:ab}{b cap:Nat}{sp:List AV}{Q:List AV->ab->Prop},s b=some (.cells (flat to++sp))->ok (gQ f v to) (fun r=>Q [vA r] s)->FN prog 52 [vA v,.arr b 0 to.length cap] s Q
 |0,_,_,_,_,_,_,_,_,h=>by obtain⟨r,h,_⟩:=h;cases h
 |f+1,v,to,s,b,cap,sp,Q,hs,h=>by
  have cJ:room=140737488355328:=rfl
  rw[gQ]at h
  refine FN.lr (FO GN rfl rfl ?_)
  rw[vB]
  unfold vA at h⊢
  cases h8:(v.Kind==8)with
  |true=>
   rw[h8,cond_true]at h
   cases h1:decide (v.N<1)with
   |true=>
    rw[h1,Bool.true_or,cond_true,aA]at h
    simp -implicitDefEqProofs only[go_sem,Nat.reduceBEq,Nat.reduceAdd,Nat.reduceMul,Nat.reduceLeDiff,Nat.reduceEqDiff,Nat.reduceBNe,UInt8.reduceToNat,UInt32.reduceToNat,h8,h1,Bool.true_eq_false,Bool.false_eq_true,false_implies,true_implies,true_and,and_true,Bool.true_or]
    first|exact⟨s,Sub.refl s,h⟩|trace_state
   |false=>
    cases h2:decide (v.N>(to.length:Int))with
    |true=>
     rw[h1,h2,Bool.or_true,cond_true,aA]at h
     simp -implicitDefEqProofs only[go_sem,Nat.reduceBEq,Nat.reduceAdd,Nat.reduceMul,Nat.reduceLeDiff,Nat.reduceEqDiff,Nat.reduceBNe,UInt8.reduceToNat,UInt32.reduceToNat,h8,h1,h2,Bool.true_eq_false,Bool.false_eq_true,false_implies,true_implies,true_and,and_true,Bool.true_or]
     first|exact⟨s,Sub.refl s,h⟩|trace_state
    |false=>
     rw[h1,h2,Bool.or_false,cond_false,dB]at h
     obtain⟨⟨k1,k2,k3⟩,h⟩:=h
     have w1:bj (v.N -1)=v.N -1:=aI (by omega) (by omega)
     obtain⟨r1,r2⟩:=R2 to sp (n:=1) rfl (j:=v.N -1) (by omega) (by omega)
     have r2:views (AB.sub (flat to++sp) ((v.N -1).toNat*1) 1)=[.int .i64 (ix to (v.N -1))]:=r2
     obtain⟨l1,l2⟩:=KU to sp (j:=v.N -1) (by omega) (by omega)
     generalize hcs:flat to++sp=cs at*
     have d1:=decide_eq_true r1
     cases h3:(ix to (v.N -1)==0)with
     |true=>
      rw[h3,cond_true,aA]at h
      simp -implicitDefEqProofs only[go_sem,Nat.reduceBEq,Nat.reduceAdd,Nat.reduceMul,Nat.reduceLeDiff,Nat.reduceEqDiff,Nat.reduceBNe,UInt8.reduceToNat,UInt32.reduceToNat,h8,h1,h2,h3,hs,w1,r2,d1,Bool.true_eq_false,Bool.false_eq_true,false_implies,true_implies,true_and,and_true,Bool.true_or]
      rw[l2,h3]
      exact⟨⟨by omega,by omega⟩,l1,fun _=>⟨s,Sub.refl s,h⟩,fun e=>(by cases e)⟩
     |false=>
      rw[h3,cond_false,aA]at h
      simp -implicitDefEqProofs only[go_sem,Nat.reduceBEq,Nat.reduceAdd,Nat.reduceMul,Nat.reduceLeDiff,Nat.reduceEqDiff,Nat.reduceBNe,UInt8.reduceToNat,UInt32.reduceToNat,h8,h1,h2,h3,hs,w1,r2,d1,Bool.true_eq_false,Bool.false_eq_true,false_implies,true_implies,true_and,and_true,Bool.true_or]
      rw[l2,h3]
      exact⟨⟨by omega,by omega⟩,l1,fun e=>(by cases e),fun _=>⟨⟨by omega,by omega⟩,s,Sub.refl s,h⟩⟩
  |false=>
   rw[h8,cond_false]at h
   cases h6:(v.Kind==6)||(v.Kind==7)with
   |false=>
    rw[h6,cond_false,aA]at h
    rw[Bool.or_eq_false_iff]at h6
    simp -implicitDefEqProofs only[go_sem,Nat.reduceBEq,Nat.reduceAdd,Nat.reduceMul,Nat.reduceLeDiff,Nat.reduceEqDiff,Nat.reduceBNe,UInt8.reduceToNat,UInt32.reduceToNat,h8,h6.1,h6.2,Bool.true_eq_false,Bool.false_eq_true,false_implies,true_implies,true_and,and_true,Bool.true_or]
    first|exact⟨s,Sub.refl s,h⟩|trace_state
   |true=>
    rw[h6,cond_true,dB,dF]at h
    obtain⟨hr,h⟩:=h
    obtain⟨ls,hit,h⟩:=h
    have rest:∀(ls:List aa),ok (some (⟨v.Kind,v.N,v.S,ls⟩:aa)) (fun r=>Q [.agg [.int .i64 r.Kind,.int .i64 r.N,.str r.S.b,.sl false 4 r.L.length (flat r.L)]] s)->Q [.agg [.int .i64 v.Kind,.int .i64 v.N,.str v.S.b,.sl false 4 ls.length (flat ls)]] s:=fun ls h=>by rw[aA]at h;exact h
    have h:=rest ls h
    have zl:∀m,(List.replicate m ([.int .i64 0,.int .i64 0,.str [],.sl false 4 0 []]:List AV)).flatten=flat (List.replicate m zV):=fun m=>by rw[fX];rfl
    cases h6':(v.Kind==6)with
    |true=>
     simp -implicitDefEqProofs only[go_sem,Nat.reduceBEq,Nat.reduceAdd,Nat.reduceMul,Nat.reduceLeDiff,Nat.reduceEqDiff,Nat.reduceBNe,UInt8.reduceToNat,UInt32.reduceToNat,h8,h6',Bool.true_eq_false,Bool.false_eq_true,false_implies,true_implies,true_and,and_true,Bool.true_or]
     refine⟨by omega,Int.le_refl _,by omega,fun R hR=>?_⟩
     rw[zl]
     have hbR:b≠R:=fun e=>by subst e;rw[hR]at hs;cases hs
     refine ga (kf:=fun l=>l=ls) (fun(q:List aa×Int) U=>q.1.length=v.L.length/\U=(⟨[(1,.arr b 0 to.length cap),(2,.loc [.int .i64 v.Kind,.int .i64 v.N,.str v.S.b,.sl false 4 v.L.length (flat v.L)]),(4,.loc [.int .i64 0,.int .i64 0,.str [],.sl true 4 0 []]),(5,.arr R 0 v.L.length v.L.length),(50,.sl false 4 v.L.length (flat v.L)),(51,.int .i64 v.L.length),(52,.int .i64 q.2)],[],s.set R (.cells (flat q.1))⟩:St)) ⟨List.length_replicate,rfl⟩ ?_ ⟨ls,hit,rfl⟩
     rintro J q U ⟨hq,rfl⟩ hb
     unfold Qk at hb
     cases hlt:decide (q.2<(v.L.length:Int))with
     |false=>
      rw[hlt,cond_false,aA]at hb
      simp only[mU]at hb
      subst hb
      by_cases h0:v.L.length=0
      ·have hq0:q.1=[]:=List.length_eq_zero_iff.1 (by omega)
       simp -implicitDefEqProofs only[go_sem,Nat.reduceBEq,Nat.reduceAdd,Nat.reduceMul,Nat.reduceLeDiff,Nat.reduceEqDiff,Nat.reduceBNe,UInt8.reduceToNat,UInt32.reduceToNat,hlt,Bool.true_eq_false,Bool.false_eq_true,false_implies,true_implies,true_and,and_true]
       refine .inl ⟨h0,h0,rfl,?_⟩
       simp -implicitDefEqProofs only[go_sem,Nat.reduceBEq,Nat.reduceAdd,Nat.reduceMul,Nat.reduceLeDiff,Nat.reduceEqDiff,Nat.reduceBNe,UInt8.reduceToNat,UInt32.reduceToNat]
       rw[hq0]at h⊢
       exact⟨s,(Sub.refl s).set hR,h⟩
      ·simp -implicitDefEqProofs only[go_sem,Nat.reduceBEq,Nat.reduceAdd,Nat.reduceMul,Nat.reduceLeDiff,Nat.reduceEqDiff,Nat.reduceBNe,UInt8.reduceToNat,UInt32.reduceToNat,hlt,Bool.true_eq_false,Bool.false_eq_true,false_implies,true_implies,true_and,and_true]
       have fz:=An (E:=?_) (d:=?_) (K:=?_) (sz:=4) (s:=s) (r:=some (R,v.L.length,[])) (l:=q.1) ?_ ⟨hR,by omega,by omega,by rw[List.append_nil,al,hq],rfl⟩ rfl ?_
       ·rw[hq]at fz
        exact fz
       ·show s.set R (.cells (flat q.1))=s.set R (.cells (flat q.1++[]))
        rw[List.append_nil]
       ·simp -implicitDefEqProofs only[go_sem,Nat.reduceBEq,Nat.reduceAdd,Nat.reduceMul,Nat.reduceLeDiff,Nat.reduceEqDiff,Nat.reduceBNe,UInt8.reduceToNat,UInt32.reduceToNat]
        exact⟨s,Sub.refl s,h⟩
     |true=>
      rw[hlt,cond_true,dB,dF]at hb
      obtain⟨⟨q1,q2,q3⟩,y,hy,hb⟩:=hb
      have w1:bj (q.2+1)=q.2+1:=aI (by omega) (by omega)
      obtain⟨r1,_⟩:=R2 q.1 [] (n:=4) rfl (j:=q.2) q1 q2
      rw[List.append_nil]at r1
      have st:=Yf q.1 [] (n:=4) rfl y (j:=q.2) q1 q2
      rw[List.append_nil,List.append_nil,dG]at st
      rw[aA]at hb
      simp only[gU]at hb
      generalize hcs:flat q.1=cs at*
      simp -implicitDefEqProofs only[go_sem,Nat.reduceBEq,Nat.reduceAdd,Nat.reduceMul,Nat.reduceLeDiff,Nat.reduceEqDiff,Nat.reduceBNe,UInt8.reduceToNat,UInt32.reduceToNat,hlt,w1,Bool.true_eq_false,Bool.false_eq_true,false_implies,true_implies,true_and,and_true]
      refine⟨⟨q1,by omega⟩,CQ f (by rw[ai hbR];exact hs) ⟨y,hy,?_⟩⟩
      unfold vA
      simp -implicitDefEqProofs only[go_sem,Nat.reduceBEq,Nat.reduceAdd,Nat.reduceMul,Nat.reduceLeDiff,Nat.reduceEqDiff,Nat.reduceBNe,UInt8.reduceToNat,UInt32.reduceToNat,bP,w1,Bool.true_eq_false,Bool.false_eq_true,false_implies,true_implies,true_and,and_true]
      refine⟨⟨q1,by omega⟩,r1,?_⟩
      rw[st]
      exact hb _ ⟨by rw[List.length_set];exact hq,rfl⟩
    |false=>
     rw[h6',Bool.false_or]at h6
     simp -implicitDefEqProofs only[go_sem,Nat.reduceBEq,Nat.reduceAdd,Nat.reduceMul,Nat.reduceLeDiff,Nat.reduceEqDiff,Nat.reduceBNe,UInt8.reduceToNat,UInt32.reduceToNat,h8,h6,h6',Bool.true_eq_false,Bool.false_eq_true,false_implies,true_implies,true_and,and_true,Bool.true_or]
     refine⟨by omega,Int.le_refl _,by omega,fun R hR=>?_⟩
     rw[zl]
     have hbR:b≠R:=fun e=>by subst e;rw[hR]at hs;cases hs
     refine ga (kf:=fun l=>l=ls) (fun(q:List aa×Int) U=>q.1.length=v.L.length/\U=(⟨[(1,.arr b 0 to.length cap),(2,.loc [.int .i64 v.Kind,.int .i64 v.N,.str v.S.b,.sl false 4 v.L.length (flat v.L)]),(4,.loc [.int .i64 0,.int .i64 0,.str [],.sl true 4 0 []]),(5,.arr R 0 v.L.length v.L.length),(50,.sl false 4 v.L.length (flat v.L)),(51,.int .i64 v.L.length),(52,.int .i64 q.2)],[],s.set R (.cells (flat q.1))⟩:St)) ⟨List.length_replicate,rfl⟩ ?_ ⟨ls,hit,rfl⟩
     rintro J q U ⟨hq,rfl⟩ hb
     unfold Qk at hb
     cases hlt:decide (q.2<(v.L.length:Int))with
     |false=>
      rw[hlt,cond_false,aA]at hb
      simp only[mU]at hb
      subst hb
      by_cases h0:v.L.length=0
      ·have hq0:q.1=[]:=List.length_eq_zero_iff.1 (by omega)
       simp -implicitDefEqProofs only[go_sem,Nat.reduceBEq,Nat.reduceAdd,Nat.reduceMul,Nat.reduceLeDiff,Nat.reduceEqDiff,Nat.reduceBNe,UInt8.reduceToNat,UInt32.reduceToNat,hlt,Bool.true_eq_false,Bool.false_eq_true,false_implies,true_implies,true_and,and_true]
       refine .inl ⟨h0,h0,rfl,?_⟩
       simp -implicitDefEqProofs only[go_sem,Nat.reduceBEq,Nat.reduceAdd,Nat.reduceMul,Nat.reduceLeDiff,Nat.reduceEqDiff,Nat.reduceBNe,UInt8.reduceToNat,UInt32.reduceToNat]
       rw[hq0]at h⊢
       exact⟨s,(Sub.refl s).set hR,h⟩
      ·simp -implicitDefEqProofs only[go_sem,Nat.reduceBEq,Nat.reduceAdd,Nat.reduceMul,Nat.reduceLeDiff,Nat.reduceEqDiff,Nat.reduceBNe,UInt8.reduceToNat,UInt32.reduceToNat,hlt,Bool.true_eq_false,Bool.false_eq_true,false_implies,true_implies,true_and,and_true]
       have fz:=An (E:=?_) (d:=?_) (K:=?_) (sz:=4) (s:=s) (r:=some (R,v.L.length,[])) (l:=q.1) ?_ ⟨hR,by omega,by omega,by rw[List.append_nil,al,hq],rfl⟩ rfl ?_
       ·rw[hq]at fz
        exact fz
       ·show s.set R (.cells (flat q.1))=s.set R (.cells (flat q.1++[]))
        rw[List.append_nil]
       ·simp -implicitDefEqProofs only[go_sem,Nat.reduceBEq,Nat.reduceAdd,Nat.reduceMul,Nat.reduceLeDiff,Nat.reduceEqDiff,Nat.reduceBNe,UInt8.reduceToNat,UInt32.reduceToNat]
        exact⟨s,Sub.refl s,h⟩
     |true=>
      rw[hlt,cond_true,dB,dF]at hb
      obtain⟨⟨q1,q2,q3⟩,y,hy,hb⟩:=hb
      have w1:bj (q.2+1)=q.2+1:=aI (by omega) (by omega)
      obtain⟨r1,_⟩:=R2 q.1 [] (n:=4) rfl (j:=q.2) q1 q2
      rw[List.append_nil]at r1
      have st:=Yf q.1 [] (n:=4) rfl y (j:=q.2) q1 q2
      rw[List.append_nil,List.append_nil,dG]at st
      rw[aA]at hb
      simp only[gU]at hb
      generalize hcs:flat q.1=cs at*
      simp -implicitDefEqProofs only[go_sem,Nat.reduceBEq,Nat.reduceAdd,Nat.reduceMul,Nat.reduceLeDiff,Nat.reduceEqDiff,Nat.reduceBNe,UInt8.reduceToNat,UInt32.reduceToNat,hlt,w1,Bool.true_eq_false,Bool.false_eq_true,false_implies,true_implies,true_and,and_true]
      refine⟨⟨q1,by omega⟩,CQ f (by rw[ai hbR];exact hs) ⟨y,hy,?_⟩⟩
      unfold vA
      simp -implicitDefEqProofs only[go_sem,Nat.reduceBEq,Nat.reduceAdd,Nat.reduceMul,Nat.reduceLeDiff,Nat.reduceEqDiff,Nat.reduceBNe,UInt8.reduceToNat,UInt32.reduceToNat,bP,w1,Bool.true_eq_false,Bool.false_eq_true,false_implies,true_implies,true_and,and_true]
      refine⟨⟨q1,by omega⟩,r1,?_⟩
      rw[st]
      exact hb _ ⟨by rw[List.length_set];exact hq,rfl⟩
theorem wJ{v:aa}{to:List Int}{s:ab}{b cap:Nat}{sp:List AV}{Q:List AV->ab->Prop}(hs:s b=some (.cells (flat to++sp))):ok (gQ lf v to) (fun r=>Q [vA r] s)->FN prog 52 [vA v,.arr b 0 to.length cap] s Q:=CQ lf hs
def toB(row:List Int)(q:List Int×Int):Option ((List Int×Int)⊕List Int):=
 bif decide (q.2<row.length)then aG (0<=q.2/\q.2<2^61)<|
  some (.inl (bif decide (ix row q.2>=1)&&decide (ix row q.2<=4096)&&(ix q.1 (ix row q.2 -1)==0)then q.1.set (ix row q.2 -1).toNat (q.2+1)else q.1,q.2+1))
 else some (.inr q.1)
def toM(row:List Int):Option (List Int):=iter (toB row) (List.replicate 4096 0,0)
def aas(to:List Int)(l:List ag)(q:List ag×Int):Option ((List ag×Int)⊕List ag):=
 bif decide (q.2<l.length)then aG (0<=q.2/\q.2<2^61/\(q.1.length+1)*80<=room)<|
  aW (bif q.2==0 then bS (ix l q.2).V ⟨[80,97,114,101,110,116]⟩else some (ix l q.2).V) fun v=>aW (gQ lf v to) fun w=>
  some (.inl (q.1++[⟨w,(ix l q.2).Stream,(ix l q.2).Data⟩],q.2+1))
 else some (.inr q.1)
def iI(row:List Int)(l:List ag)(given:aa):Option dP:=aW (toM row) fun to=>aW (gQ lf given to) fun g=>aW (iter (aas to l) ([],0)) fun os=>some ⟨os,g⟩
theorem CT{lV:List Int}{l_1:List ag}{jv:aa}{s:ab}{r:dP}(h:iI lV l_1 jv=some r):FE prog 23 [.sl false 1 lV.length (flat lV),.sl false 6 l_1.length (flat l_1),.agg [.int .i64 jv.Kind,.int .i64 jv.N,.str jv.S.b,.sl false 4 jv.L.length (flat jv.L)]] s
 [.agg [.sl false 6 r.ae.length (flat r.ae),.int .i64 r.an.Kind,.int .i64 r.an.N,.str r.an.S.b,.sl false 4 r.an.L.length (flat r.an.L)]] s:=by
 have cJ:room=140737488355328:=rfl
 have h':ok (iI lV l_1 jv) fun z=>z=r:=⟨r,h,rfl⟩
 unfold iI toM at h'
 simp only[dF,aA]at h'
 obtain⟨to,hto,g,hg,os,hos,rfl⟩:=h'
 refine FN.lr (FO Cc rfl rfl ?_)
 rw[rP]
 have e4:(4096:Int).toNat=4096:=rfl
 simp -implicitDefEqProofs only[go_sem,Nat.reduceBEq,Nat.reduceAdd,Nat.reduceMul,Nat.reduceLeDiff,Nat.reduceEqDiff,Nat.reduceBNe,UInt8.reduceToNat,UInt32.reduceToNat,e4]
 refine⟨by decide,by decide,by decide,fun R hR=>?_⟩
 refine ga (kf:=fun t=>t=to) (fun(q:List Int×Int) U=>q.1.length=4096/\U=(⟨[(1,.sl false 6 l_1.length (flat l_1)),(5,.loc [.int .i64 jv.Kind,.int .i64 jv.N,.str jv.S.b,.sl false 4 jv.L.length (flat jv.L)]),(6,.loc [.sl true 6 0 [],.int .i64 0,.int .i64 0,.str [],.sl true 4 0 []]),(7,.arr R 0 4096 4096),(14,.sl false 1 lV.length (flat lV)),(15,.int .i64 lV.length),(16,.int .i64 q.2)],[],s.set R (.cells (flat q.1))⟩:St)) ⟨List.length_replicate,rfl⟩ ?_ ⟨to,hto,rfl⟩
 rintro J q U ⟨hq,rfl⟩ hb
 unfold toB at hb
 cases hlt:decide (q.2<(lV.length:Int))with
 |true=>
  rw[hlt,cond_true,dB,aA]at hb
  simp only[gU]at hb
  obtain⟨⟨q1,q2⟩,hb⟩:=hb
  have w1:bj (q.2+1)=q.2+1:=aI (by omega) (by omega)
  cases c1:decide (ix lV q.2>=1)with
  |false=>
   simp only[c1,Bool.false_and,cond_false]at hb
   simp -implicitDefEqProofs only[go_sem,Nat.reduceBEq,Nat.reduceAdd,Nat.reduceMul,Nat.reduceLeDiff,Nat.reduceEqDiff,Nat.reduceBNe,UInt8.reduceToNat,UInt32.reduceToNat,hlt,w1,c1,Bool.true_eq_false,Bool.false_eq_true,false_implies,true_implies,true_and,and_true,Bool.false_and]
   exact⟨⟨q1,by simpa using hlt⟩,hb _ ⟨hq,rfl⟩⟩
  |true=>
   cases c2:decide (ix lV q.2<=4096)with
   |false=>
    simp only[c1,c2,Bool.and_false,Bool.false_and,cond_false]at hb
    simp -implicitDefEqProofs only[go_sem,Nat.reduceBEq,Nat.reduceAdd,Nat.reduceMul,Nat.reduceLeDiff,Nat.reduceEqDiff,Nat.reduceBNe,UInt8.reduceToNat,UInt32.reduceToNat,hlt,w1,c1,c2,Bool.true_eq_false,Bool.false_eq_true,false_implies,true_implies,true_and,and_true,Bool.false_and]
    first|exact⟨⟨q1,by simpa using hlt⟩,hb _ ⟨hq,rfl⟩⟩|trace_state
   |true=>
    have k1:ix lV q.2>=1:=by simpa using c1
    have k2:ix lV q.2<=4096:=by simpa using c2
    have w2:bj (ix lV q.2 -1)=ix lV q.2 -1:=aI (by omega) (by omega)
    obtain⟨l1,l2⟩:=KU q.1 [] (j:=ix lV q.2 -1) (by omega) (by omega)
    obtain⟨r1,_⟩:=R2 q.1 [] (n:=1) rfl (j:=ix lV q.2 -1) (by omega) (by omega)
    have st:=Yf q.1 [] (n:=1) rfl (q.2+1) (j:=ix lV q.2 -1) (by omega) (by omega)
    have st:setAt (flat q.1++[]) ((ix lV q.2 -1).toNat*1) [.int .i64 (q.2+1)]=_:=st
    rw[List.append_nil]at l1 l2 r1 st
    rw[List.append_nil]at st
    cases c3:(ix q.1 (ix lV q.2 -1)==0)with
    |false=>
     simp only[c1,c2,c3,Bool.and_false,Bool.false_and,cond_false]at hb
     generalize hcs:flat q.1=cs at*
     simp -implicitDefEqProofs only[go_sem,Nat.reduceBEq,Nat.reduceAdd,Nat.reduceMul,Nat.reduceLeDiff,Nat.reduceEqDiff,Nat.reduceBNe,UInt8.reduceToNat,UInt32.reduceToNat,hlt,w1,w2,c1,c2,l2,c3,Bool.true_eq_false,Bool.false_eq_true,false_implies,true_implies,true_and,and_true,Bool.false_and]
     subst hcs
     exact⟨⟨q1,by simpa using hlt⟩,⟨by omega,by omega⟩,l1,hb _ ⟨hq,rfl⟩⟩
    |true=>
     simp only[c1,c2,c3,Bool.and_true,cond_true]at hb
     generalize hcs:flat q.1=cs at*
     simp -implicitDefEqProofs only[go_sem,Nat.reduceBEq,Nat.reduceAdd,Nat.reduceMul,Nat.reduceLeDiff,Nat.reduceEqDiff,Nat.reduceBNe,UInt8.reduceToNat,UInt32.reduceToNat,hlt,w1,w2,c1,c2,l2,c3,Bool.true_eq_false,Bool.false_eq_true,false_implies,true_implies,true_and,and_true,Bool.false_and]
     rw[st]
     first|exact⟨⟨q1,by simpa using hlt⟩,⟨by omega,by omega⟩,l1,⟨by omega,by omega⟩,r1,hb _ ⟨by rw[List.length_set];exact hq,rfl⟩⟩|trace_state
 |false=>
  rw[hlt,cond_false,aA]at hb
  simp only[mU]at hb
  subst hb
  have hs2:(s.set R (.cells (flat q.1))) R=some (.cells (flat q.1++[])):=by rw[List.append_nil];exact bP
  generalize hst:s.set R (.cells (flat q.1))=st at*
  simp -implicitDefEqProofs only[go_sem,Nat.reduceBEq,Nat.reduceAdd,Nat.reduceMul,Nat.reduceLeDiff,Nat.reduceEqDiff,Nat.reduceBNe,UInt8.reduceToNat,UInt32.reduceToNat,hlt,Bool.true_eq_false,Bool.false_eq_true,false_implies,true_implies,true_and,and_true]
  have t0:=fun{Q}=>wJ (v:=jv) (to:=q.1) (s:=st) (b:=R) (cap:=4096) (Q:=Q) hs2
  rw[hq]at t0
  refine t0 ⟨g,hg,?_⟩
  unfold vA
  simp -implicitDefEqProofs only[go_sem,Nat.reduceBEq,Nat.reduceAdd,Nat.reduceMul,Nat.reduceLeDiff,Nat.reduceEqDiff,Nat.reduceBNe,UInt8.reduceToNat,UInt32.reduceToNat,Bool.true_eq_false,Bool.false_eq_true,false_implies,true_implies,true_and,and_true]
  refine ga (kf:=fun o=>o=os) (fun(p:List ag×Int) U=>U=(⟨[(6,.loc [.sl true 6 0 [],.int .i64 0,.int .i64 0,.str [],.sl true 4 0 []]),(7,.arr R 0 4096 4096),(10,.loc [.sl true 6 p.1.length (flat p.1),.int .i64 g.Kind,.int .i64 g.N,.str g.S.b,.sl false 4 g.L.length (flat g.L)]),(46,.sl false 6 l_1.length (flat l_1)),(47,.int .i64 l_1.length),(48,.int .i64 p.2)],[],st⟩:St)) rfl ?_ ⟨os,hos,rfl⟩
  rintro J2 p U rfl hb
  unfold aas at hb
  cases nu:decide (p.2<(l_1.length:Int))with
  |false=>
   rw[nu,cond_false,aA]at hb
   simp only[mU]at hb
   subst hb
   simp -implicitDefEqProofs only[go_sem,Nat.reduceBEq,Nat.reduceAdd,Nat.reduceMul,Nat.reduceLeDiff,Nat.reduceEqDiff,Nat.reduceBNe,UInt8.reduceToNat,UInt32.reduceToNat,nu,Bool.true_eq_false,Bool.false_eq_true,false_implies,true_implies,true_and,and_true]
   exact⟨s,by rw[<-hst];exact(Sub.refl s).set hR,rfl⟩
  |true=>
   rw[nu,cond_true,dB,dF]at hb
   obtain⟨⟨q1,q2,q3⟩,v,hv,hb⟩:=hb
   rw[dF]at hb
   obtain⟨w,hw,hb⟩:=hb
   rw[aA]at hb
   simp only[gU]at hb
   have w1:bj (p.2+1)=p.2+1:=aI (by omega) (by omega)
   have t1:=fun{Q}{x:aa}=>wJ (v:=x) (to:=q.1) (s:=st) (b:=R) (cap:=4096) (Q:=Q) hs2
   rw[hq]at t1
   unfold vA at t1
   have hp:p.2<(l_1.length:Int):=by simpa using nu
   cases c0:(p.2==0)with
   |true=>
    rw[c0,cond_true]at hv
    simp -implicitDefEqProofs only[go_sem,Nat.reduceBEq,Nat.reduceAdd,Nat.reduceMul,Nat.reduceLeDiff,Nat.reduceEqDiff,Nat.reduceBNe,UInt8.reduceToNat,UInt32.reduceToNat,nu,c0,w1,Bool.true_eq_false,Bool.false_eq_true,false_implies,true_implies,true_and,and_true]
    refine⟨⟨q1,hp⟩,FE.app (rf hv) ?_⟩
    simp -implicitDefEqProofs only[go_sem,Nat.reduceBEq,Nat.reduceAdd,Nat.reduceMul,Nat.reduceLeDiff,Nat.reduceEqDiff,Nat.reduceBNe,UInt8.reduceToNat,UInt32.reduceToNat,Bool.true_eq_false,Bool.false_eq_true,false_implies,true_implies,true_and,and_true]
    refine t1 ⟨w,hw,?_⟩
    simp -implicitDefEqProofs only[go_sem,Nat.reduceBEq,Nat.reduceAdd,Nat.reduceMul,Nat.reduceLeDiff,Nat.reduceEqDiff,Nat.reduceBNe,UInt8.reduceToNat,UInt32.reduceToNat,w1,Bool.true_eq_false,Bool.false_eq_true,false_implies,true_implies,true_and,and_true]
    refine⟨q3,?_⟩
    have e1:flat (p.1++[(⟨w,(ix l_1 p.2).Stream,(ix l_1 p.2).Data⟩:ag)])=flat p.1++[.int .i64 w.Kind,.int .i64 w.N,.str w.S.b,.sl false 4 w.L.length (flat w.L),.bool (ix l_1 p.2).Stream,.str (ix l_1 p.2).Data.b]:=by rw[bT];rfl
    have fin:=hb _ rfl
    simp only[List.length_append,List.length_cons,List.length_nil,Nat.zero_add,e1]at fin
    exact fin
   |false=>
    rw[c0,cond_false]at hv
    injection hv with hv
    rw[<-hv]at hw
    simp -implicitDefEqProofs only[go_sem,Nat.reduceBEq,Nat.reduceAdd,Nat.reduceMul,Nat.reduceLeDiff,Nat.reduceEqDiff,Nat.reduceBNe,UInt8.reduceToNat,UInt32.reduceToNat,nu,c0,w1,Bool.true_eq_false,Bool.false_eq_true,false_implies,true_implies,true_and,and_true]
    refine⟨⟨q1,hp⟩,t1 ⟨w,hw,?_⟩⟩
    simp -implicitDefEqProofs only[go_sem,Nat.reduceBEq,Nat.reduceAdd,Nat.reduceMul,Nat.reduceLeDiff,Nat.reduceEqDiff,Nat.reduceBNe,UInt8.reduceToNat,UInt32.reduceToNat,w1,Bool.true_eq_false,Bool.false_eq_true,false_implies,true_implies,true_and,and_true]
    refine⟨q3,?_⟩
    have e1:flat (p.1++[(⟨w,(ix l_1 p.2).Stream,(ix l_1 p.2).Data⟩:ag)])=flat p.1++[.int .i64 w.Kind,.int .i64 w.N,.str w.S.b,.sl false 4 w.L.length (flat w.L),.bool (ix l_1 p.2).Stream,.str (ix l_1 p.2).Data.b]:=by rw[bT];rfl
    have fin:=hb _ rfl
    simp only[List.length_append,List.length_cons,List.length_nil,Nat.zero_add,e1]at fin
    exact fin
end Go.AB
end
