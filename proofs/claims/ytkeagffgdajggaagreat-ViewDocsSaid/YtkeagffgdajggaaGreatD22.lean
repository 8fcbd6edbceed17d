/- A part of the proof. -/
import Derived.Test.YtkeagffgdajggaaGreatD13
import Derived.Test.YtkeagffgdajggaaGreatD21
set_option linter.unusedSimpArgs false
set_option linter.unusedVariables false
section
set_option maxRecDepth 4000
namespace Go.AB
open Go
open Go.Proofs.Tryz (prog)
attribute[-go_sem] cu dj bO ct Nat.add_zero mV bS
structure bL where
 ak:(List af)
 ag:aa
instance:aP bL:=⟨5,fun x=>[sF 6 x.ak,.int .i64 x.ag.Kind,.int .i64 x.ag.N,.str x.ag.S.b,sF 4 x.ag.L],(bL.mk [] (aa.mk 0 0 (ar.mk []) [])),by decide,fun _=>rfl,fun _=>rfl⟩
def gl(a_0:ar)(b_1:ar):Option (Int):=
 aJ (rW a_0 b_1) fun r1=>
 some r1
def pZ:IC:=
 (ae [mi 4 0] [0,1]
 (ae [mv 5 0,mv 6 1,c2 7 202 5 6,mv 4 7] [4]
 .ret))
theorem zO:aE prog 166 8 [⟨4,true,none⟩] pZ=true:=by kernel_rfl
theorem Ag{a_0 b_1}{s:ab}{Q:List AV->ab->Prop}:ok (gl a_0 b_1) (fun r=>Q [.int .i64 r] s)->FN prog 166 [.str a_0.b,.str b_1.b] s Q:=by
 intro h
 refine FO zO rfl rfl ?_
 revert h
 rw[pZ,gl]
 repeat'(first
  |with_reducible refine ah (fun _(h:rW a_0 b_1=some _)=>Mj h) (fun r1=>?_)
  |simp -implicitDefEqProofs only[go_sem,seval])
theorem Af{a_0 b_1}{s:ab}{r:Int}(h:gl a_0 b_1=some r):FE prog 166 [.str a_0.b,.str b_1.b] s [.int .i64 r] s:=Ag ⟨r,h,rfl,rfl⟩
mutual
def cD:Nat->aa->aa->Option (Int)
 |0,_,_=>none
 |fuel+1,a_0,b_1=>
  aJ (bV a_0.Kind b_1.Kind) fun r1=>
  aJ (bV a_0.N b_1.N) fun r2=>
  aJ (gl a_0.S b_1.S) fun r3=>
  aJ (gh [r1,r2,r3]) fun r4=>
  if r4 !=0 then
   some r4
  else
   aJ (aA fuel a_0.L b_1.L) fun r5=>
   some r5
def aA:Nat->(List aa)->(List aa)->Option (Int)
 |0,_,_=>none
 |fuel+1,lN,oc=>
  yS (
   jY (
    iter (fun(t4:Int)=>
     if decide (t4<(lN.length:Int))then
      aB (0<=t4/\t4<lN.length)<|
      if decide (t4>=(oc.length:Int))then
       some (.inr (.inr (1:Int)))
      else
       aB (0<=t4/\t4<oc.length)<|
       aJ (cD fuel (ix lN t4) (ix oc t4)) fun r8=>
       if r8 !=0 then
        some (.inr (.inr r8))
       else
        some (.inl (bd (t4+1)))
     else
      some (.inr (.inl ()))) 0) (fun(_:Unit)=>
    some (.inl ()))
   (fun(t7:Int)=>some (.inr t7))) (fun(_:Unit)=>
   if decide ((lN.length:Int)<(oc.length:Int))then
    some (-1)
   else
    some 0)
  (fun(t3:Int)=>some t3)
end
def sx:IC:=
 (ae [i1 2 (.b8 4 (.t 0)),i1 3 (.b8 4 (.t 1)),mi 4 0] [2,3]
 (.seq (.seq (.bJ (some 18) [fa 6 0 2,ld 7 1 6,fa 8 0 3,ld 9 1 8,c2 10 165 7 9,fa 11 1 2,ld 12 1 11,fa 13 1 3,ld 14 1 13,c2 15 165 12 14,fa 16 2 2,ld 17 1 16,fa 18 2 3,ld 19 1 18,c2 20 166 17 19,i1 21 (.aN 1 3 [.int .i64 0,.int .i64 0,.int .i64 0] [(0,1,(.t 10)),(1,1,(.t 15)),(2,1,(.t 20))]),c1 22 164 21,mv 5 22] [2,3,5])
 (ae [mv 23 5,bn 24 .neq 23 0] [2,3,5,24]
 (.cond (.t 24) (ae [mv 25 5,mv 4 25] [4]
 .ret)
 .skip)))
 (ae [fa 26 3 2,ld 27 1 26,fa 28 3 3,ld 29 1 28,i1 30 (.call 167 [(.t 27),(.t 29),(.c (.fn 114 [] []))]),mv 4 30] [4]
 .ret)))
theorem CJ:aE prog 114 31 [⟨4,true,none⟩] sx=true:=by kernel_rfl
theorem Py:(pR prog 114=true)=True:=eq_true (by kernel_rfl)
def cI:IC:=
 (ae [mi 6 0] [0,1,2]
 (.join [(0,true),(1,true)] (ae [mv 11 0,le 12 0 11,mi 13 0] [0,1,2,11,12,13]
 (.block 0 (.loop [(0,true),(1,true),(2,false),(11,true),(12,false),(13,false)] (ae [bt 14 .lss 13 12] [0,1,2,11,12,13,14]
 (.seq (.cond (.t 14) .skip
 (.exit 0))
 (.seq (.block 1 (ae [mv 15 13,ia 16 pr 11 13,lm 17 4 16,i1 8 (.an gj),mv 7 15,st 4 8 17] [0,1,2,7,8,11,12,13]
 (.seq (ae [mv 18 7,mv 19 1,le 20 0 19,bt 21 .geq 18 20] [0,1,2,7,8,11,12,13,21]
 (.cond (.t 21) (ae [mi 6 1] [6]
 .ret)
 .skip))
 (ae [mv 22 1,mv 23 7,ia 24 pr 22 23,lm 25 4 24,i1 9 (.an gj),st 4 9 25] [0,1,2,8,9,11,12,13]
 (ae [mv 26 2,lm 27 4 8,lm 28 4 9,i1 29 (.cG (.t 26) [(.t 27),(.t 28)]),mv 10 29] [0,1,2,10,11,12,13]
 (ae [mv 30 10,bn 31 .neq 30 0] [0,1,2,10,11,12,13,31]
 (.cond (.t 31) (ae [mv 32 10,mv 6 32] [6]
 .ret)
 .skip)))))))
 (.bJ none [bn 33 .add 13 1,mv 13 33] [0,1,2,11,12,13])))))))
 (.seq (ae [mt 34 0,le 35 0 34,mt 36 1,le 37 0 36,bt 38 .lss 35 37] [38]
 (.cond (.t 38) (ae [mi 6 (-1)] [6]
 .ret)
 .skip))
 (ae [mi 6 0] [6]
 .ret))))
theorem eK:aE prog 167 39 [⟨6,true,none⟩] cI=true:=by kernel_rfl
theorem B6{fuel:Nat}:(∀{a_0:aa}{b_1:aa}{s:ab}{Q:List AV->ab->Prop},ok (cD fuel a_0 b_1) (fun r=>Q [.int .i64 r] s)->FN prog 114 [oV a_0,oV b_1] s Q)
 /\(∀{lN:(List aa)}{oc:(List aa)}{s:ab}{Q:List AV->ab->Prop},ok (aA fuel lN oc) (fun r=>Q [.int .i64 r] s)->FN prog 167 [sF 4 lN,sF 4 oc,.fn 114 [] []] s Q):=by
 induction fuel with
 |zero=>exact⟨by(intros;rename_i h;rw[cD]at h;exact absurd h (by rw[ok_none];exact fun h=>h)),by(intros;rename_i h;rw[aA]at h;exact absurd h (by rw[ok_none];exact fun h=>h))⟩
 |succ fuel ih=>
 have W0:∀{a_0:aa}{b_1:aa}{s:ab}{r:Int},cD fuel a_0 b_1=some r->FE prog 114 [oV a_0,oV b_1] s [.int .i64 r] s:=fun h=>ih.1 ⟨_,h,rfl,rfl⟩
 have W1:∀{lN:(List aa)}{oc:(List aa)}{s:ab}{r:Int},aA fuel lN oc=some r->FE prog 167 [sF 4 lN,sF 4 oc,.fn 114 [] []] s [.int .i64 r] s:=fun h=>ih.2 ⟨_,h,rfl,rfl⟩
 refine⟨?_,?_⟩
 ·intro a_0 b_1 s Q h
  refine FO CJ rfl rfl ?_
  revert h
  rw[sx,cD]
  repeat'(first
   |(with_reducible first|exact bW|refine bj ?_ ?_|refine ch ?_|refine ba (fun _(h:bV a_0.Kind b_1.Kind=some _)=>jj h) (fun _=>rfl) (fun r1=>?_)|refine ba (fun _(h:bV a_0.N b_1.N=some _)=>jj h) (fun _=>rfl) (fun r2=>?_)|refine ba (fun _(h:gl a_0.S b_1.S=some _)=>Af h) (fun _=>rfl) (fun r3=>?_)|refine ba (fun _(h:gh [r1,r2,r3]=some _)=>(by refine gL ?_ (AE h);simp -implicitDefEqProofs only[go_sem,seval])) (fun _=>rfl) (fun r4=>?_)|refine ah (fun _(h:aA fuel a_0.L b_1.L=some _)=>W1 h) (fun r5=>?_))
   |simp -implicitDefEqProofs only[go_sem,seval])
 ·intro lN oc s Q h
  refine FO eK rfl rfl ?_
  revert h
  rw[cI,aA]
  repeat'(first
   |(with_reducible first|exact bW|refine bj ?_ ?_|refine ch ?_|refine ah (fun _(h:cD fuel (ix lN t4) (ix oc t4)=some _)=>W0 h) (fun r8=>?_))
   |((with_reducible refine aY (fun(t4:Int)=>⟨[(0,sF 4 lN),(1,sF 4 oc),(2,.fn 114 [] []),(11,sF 4 lN),(12,.int .i64 (lN.length:Int)),(13,.int .i64 t4)],[],s⟩) ?_ ?_);(first|exact rfl|simp -implicitDefEqProofs only[go_sem,seval,Py]);rintro J t4)
   |((with_reducible refine dD (fun(_:Unit)=>⟨[(0,sF 4 lN),(1,sF 4 oc)],[],s⟩) (fun J=>?_) ?_);rotate_left;rintro _)
   |simp -implicitDefEqProofs only[go_sem,seval,Py])
theorem Du{fuel:Nat}:∀{a_0:aa}{b_1:aa}{s:ab}{Q:List AV->ab->Prop},ok (cD fuel a_0 b_1) (fun r=>Q [.int .i64 r] s)->FN prog 114 [oV a_0,oV b_1] s Q:=B6.1
theorem Dt{fuel:Nat}{a_0 b_1}{s:ab}{r:Int}(h:cD fuel a_0 b_1=some r):FE prog 114 [oV a_0,oV b_1] s [.int .i64 r] s:=Du ⟨r,h,rfl,rfl⟩
def iR(a_0:aa)(b_1:aa):Option (Bool):=
 aJ (cD iu a_0 b_1) fun r1=>
 some (r1==0)
def yP:IC:=
 (ae [i1 2 (.b8 4 (.t 0)),i1 3 (.b8 4 (.t 1)),cZ 4 (.bool false)] [2,3]
 (ae [lm 5 4 2,lm 6 4 3,c2 7 114 5 6,bn 8 .eql 7 0,mv 4 8] [4]
 .ret))
theorem JZ:aE prog 58 9 [⟨4,true,none⟩] yP=true:=by kernel_rfl
theorem KL{a_0 b_1}{s:ab}{Q:List AV->ab->Prop}:ok (iR a_0 b_1) (fun r=>Q [.bool r] s)->FN prog 58 [oV a_0,oV b_1] s Q:=by
 intro h
 refine FO JZ rfl rfl ?_
 revert h
 rw[yP,iR]
 repeat'(first
  |with_reducible refine ah (fun _(h:cD iu a_0 b_1=some _)=>Dt h) (fun r1=>?_)
  |simp -implicitDefEqProofs only[go_sem,seval])
theorem y8{a_0 b_1}{s:ab}{r:Bool}(h:iR a_0 b_1=some r):FE prog 58 [oV a_0,oV b_1] s [.bool r] s:=KL ⟨r,h,rfl,rfl⟩
def kE(a_0:af)(b_1:af):Option (Bool):=
 aJ (mB (((a_0.Stream==b_1.Stream)!=false)&&(a_0.Data.b==b_1.Data.b)) false (iR a_0.V b_1.V)) fun r1=>
 some ((((a_0.Stream==b_1.Stream)!=false)&&(a_0.Data.b==b_1.Data.b))&&r1)
def yk:IC:=
 (ae [i1 2 (.b8 6 (.t 0)),i1 3 (.b8 6 (.t 1)),cZ 4 (.bool false)] [2,3]
 (.seq (.bJ (some 18) [fa 5 4 2,ld 6 1 5,fa 7 4 3,ld 8 1 7,i1 9 (.VA false (.t 6) (.t 8)),mv 10 9,fg 11 10 true 5 2,lg 12 10 true 1 11,fg 13 10 true 5 3,lg 14 10 true 1 13,rF 15 10 true .eql 12 14,pf 16 10 15,mv 17 16,fg 18 17 true 0 2,du 19 17 true (.load 4 true (.t 18)),fg 20 17 true 0 3,du 21 17 true (.load 4 true (.t 20)),qd2 22 17 true 58 19 21,pf 23 17 22,mv 4 23] [4])
 .ret))
theorem Jy:aE prog 57 24 [⟨4,true,none⟩] yk=true:=by kernel_rfl
theorem Jo{a_0 b_1}{s:ab}{Q:List AV->ab->Prop}:ok (kE a_0 b_1) (fun r=>Q [.bool r] s)->FN prog 57 [.agg [.int .i64 a_0.V.Kind,.int .i64 a_0.V.N,.str a_0.V.S.b,sF 4 a_0.V.L,.bool a_0.Stream,.str a_0.Data.b],.agg [.int .i64 b_1.V.Kind,.int .i64 b_1.V.N,.str b_1.V.S.b,sF 4 b_1.V.L,.bool b_1.Stream,.str b_1.Data.b]] s Q:=by
 intro h
 refine FO Jy rfl rfl ?_
 revert h
 rw[yk,kE]
 repeat'(first
  |with_reducible refine fP rfl (fun _(h:iR a_0.V b_1.V=some _)=>y8 h) (fun _=>rfl) (fun r1=>?_)
  |simp -implicitDefEqProofs only[go_sem,seval])
theorem Jn{a_0 b_1}{s:ab}{r:Bool}(h:kE a_0 b_1=some r):FE prog 57 [.agg [.int .i64 a_0.V.Kind,.int .i64 a_0.V.N,.str a_0.V.S.b,sF 4 a_0.V.L,.bool a_0.Stream,.str a_0.Data.b],.agg [.int .i64 b_1.V.Kind,.int .i64 b_1.V.N,.str b_1.V.S.b,sF 4 b_1.V.L,.bool b_1.Stream,.str b_1.Data.b]] s [.bool r] s:=Jo ⟨r,h,rfl,rfl⟩
def ax(lN:(List af))(oc:(List af)):Option (Bool):=
 if(lN.length:Int)!=(oc.length:Int)then
  some false
 else
  yS (
   jY (
    iter (fun(t2:Int)=>
     if decide (t2<(lN.length:Int))then
      aB (0<=t2/\t2<lN.length)<|
      aB (0<=t2/\t2<oc.length)<|
      aJ (kE (ix lN t2) (ix oc t2)) fun r4=>
      if !r4 then
       some (.inr (.inr false))
      else
       some (.inl (bd (t2+1)))
     else
      some (.inr (.inl ()))) 0) (fun(_:Unit)=>
    some (.inl ()))
   (fun(t3:Bool)=>some (.inr t3))) (fun(_:Unit)=>
   some true)
  (fun(t1:Bool)=>some t1)
theorem Tv:(pR prog 57=true)=True:=eq_true (by kernel_rfl)
def cm:IC:=
 (ae [cZ 6 (.bool false)] [0,1,2]
 (.seq (ae [mv 10 0,le 11 0 10,mv 12 1,le 13 0 12,bt 14 .neq 11 13] [0,1,2,14]
 (.cond (.t 14) (ae [cZ 6 (.bool false)] [6]
 .ret)
 .skip))
 (.join [] (ae [mt 15 0,le 16 0 15,mi 17 0] [1,2,15,16,17]
 (.block 0 (.loop [(1,true),(2,false),(15,true),(16,false),(17,false)] (ae [bt 18 .lss 17 16] [1,2,15,16,17,18]
 (.seq (.cond (.t 18) .skip
 (.exit 0))
 (.seq (.block 1 (ae [mv 19 17,ia 20 TR 15 17,lm 21 6 20,i1 8 (.an qR),mv 7 19,st 6 8 21] [1,2,7,8,15,16,17]
 (ae [mv 22 1,mv 23 7,ia 24 TR 22 23,lm 25 6 24,i1 9 (.an qR),st 6 9 25] [1,2,8,9,15,16,17]
 (ae [mv 26 2,lm 27 6 8,lm 28 6 9,i1 29 (.cG (.t 26) [(.t 27),(.t 28)]),no 30 29] [1,2,15,16,17,30]
 (.cond (.t 30) (ae [cZ 6 (.bool false)] [6]
 .ret)
 .skip)))))
 (.bJ none [bn 31 .add 17 1,mv 17 31] [1,2,15,16,17])))))))
 (ae [cZ 6 (.bool true)] [6]
 .ret))))
theorem eh:aE prog 56 32 [⟨6,true,none⟩] cm=true:=by kernel_rfl
theorem eu{lN oc}{s:ab}{Q:List AV->ab->Prop}:ok (ax lN oc) (fun r=>Q [.bool r] s)->FN prog 56 [sF 6 lN,sF 6 oc,.fn 57 [] []] s Q:=by
 intro h
 refine FO eh rfl rfl ?_
 revert h
 rw[cm,ax]
 repeat'(first
  |(with_reducible first|exact bW|refine bj ?_ ?_|refine ch ?_|refine ah (fun _(h:kE (ix lN t2) (ix oc t2)=some _)=>Jn h) (fun r4=>?_))
  |((with_reducible refine aY (fun(t2:Int)=>⟨[(1,sF 6 oc),(2,.fn 57 [] []),(15,sF 6 lN),(16,.int .i64 (lN.length:Int)),(17,.int .i64 t2)],[],s⟩) ?_ ?_);(first|exact rfl|simp -implicitDefEqProofs only[go_sem,seval,Tv]);rintro J t2)
  |((with_reducible refine dD (fun(_:Unit)=>⟨[],[],s⟩) (fun J=>?_) ?_);rotate_left;rintro _)
  |simp -implicitDefEqProofs only[go_sem,seval,Tv])
theorem ep{lN oc}{s:ab}{r:Bool}(h:ax lN oc=some r):FE prog 56 [sF 6 lN,sF 6 oc,.fn 57 [] []] s [.bool r] s:=eu ⟨r,h,rfl,rfl⟩
def pE(a_0:bL)(b_1:bL):Option (Bool):=
 aJ (ax a_0.ak b_1.ak) fun r1=>
 aJ (mB r1 false (iR a_0.ag b_1.ag)) fun r2=>
 some (r1&&r2)
def Bp:IC:=
 (ae [i1 2 (.b8 5 (.t 0)),i1 3 (.b8 5 (.t 1)),cZ 4 (.bool false)] [2,3]
 (.seq (.bJ (some 11) [fa 5 0 2,ld 6 1 5,fa 7 0 3,ld 8 1 7,i1 9 (.call 56 [(.t 6),(.t 8),(.c (.fn 57 [] []))]),mv 10 9,fg 11 10 true 1 2,du 12 10 true (.load 4 true (.t 11)),fg 13 10 true 1 3,du 14 10 true (.load 4 true (.t 13)),qd2 15 10 true 58 12 14,pf 16 10 15,mv 4 16] [4])
 .ret))
theorem M5:aE prog 25 17 [⟨4,true,none⟩] Bp=true:=by kernel_rfl
theorem OM{a_0 b_1}{s:ab}{Q:List AV->ab->Prop}:ok (pE a_0 b_1) (fun r=>Q [.bool r] s)->FN prog 25 [.agg [sF 6 a_0.ak,.int .i64 a_0.ag.Kind,.int .i64 a_0.ag.N,.str a_0.ag.S.b,sF 4 a_0.ag.L],.agg [sF 6 b_1.ak,.int .i64 b_1.ag.Kind,.int .i64 b_1.ag.N,.str b_1.ag.S.b,sF 4 b_1.ag.L]] s Q:=by
 intro h
 refine FO M5 rfl rfl ?_
 revert h
 rw[Bp,pE]
 repeat'(first
  |(with_reducible first|refine ba (fun _(h:ax a_0.ak b_1.ak=some _)=>ep h) (fun _=>rfl) (fun r1=>?_)|refine fP rfl (fun _(h:iR a_0.ag b_1.ag=some _)=>y8 h) (fun _=>rfl) (fun r2=>?_))
  |simp -implicitDefEqProofs only[go_sem,seval])
theorem B9{a_0 b_1}{s:ab}{r:Bool}(h:pE a_0 b_1=some r):FE prog 25 [.agg [sF 6 a_0.ak,.int .i64 a_0.ag.Kind,.int .i64 a_0.ag.N,.str a_0.ag.S.b,sF 4 a_0.ag.L],.agg [sF 6 b_1.ak,.int .i64 b_1.ag.Kind,.int .i64 b_1.ag.N,.str b_1.ag.S.b,sF 4 b_1.ag.L]] s [.bool r] s:=OM ⟨r,h,rfl,rfl⟩
def cC:Nat->aa->aa->Option (Int)
 |0,_,_=>none
 |fuel+1,a_0,b_1=>
  if(decide (a_0.Kind<b_1.Kind))||((a_0.Kind==b_1.Kind)&&((decide (a_0.N<b_1.N))||((a_0.N==b_1.N)&&(Op.bytesLess a_0.S.b b_1.S.b))))then
   some (-1)
  else
   if((a_0.Kind !=b_1.Kind)||(a_0.N !=b_1.N))||(!(a_0.S.b==b_1.S.b))then
    some 1
   else
    yS (
     jY (
      iter (fun(k4:Int)=>
       if(decide (k4<(a_0.L.length:Int)))&&(decide (k4<(b_1.L.length:Int)))then
        aB (0<=k4/\k4<a_0.L.length)<|
        aB (0<=k4/\k4<b_1.L.length)<|
        aJ (cC fuel (ix a_0.L k4) (ix b_1.L k4)) fun r8=>
        if r8 !=0 then
         some (.inr (.inr r8))
        else
         some (.inl (bd (k4+1)))
       else
        some (.inr (.inl ()))) 0) (fun(_:Unit)=>
      some (.inl ()))
     (fun(t7:Int)=>some (.inr t7))) (fun(_:Unit)=>
     if decide ((a_0.L.length:Int)<(b_1.L.length:Int))then
      some (-1)
     else
      if decide ((a_0.L.length:Int)>(b_1.L.length:Int))then
       some 1
      else
       some 0)
    (fun(t3:Int)=>some t3)
def ss:IC:=
 (ae [i1 2 (.b8 4 (.t 0)),i1 3 (.b8 4 (.t 1)),mi 4 0] [2,3]
 (.seq (.block 0 (ae [fa 8 0 2,ld 9 1 8,fa 10 0 3,ld 11 1 10,bt 12 .lss 9 11,mv 13 12,fg 14 13 false 0 2,lg 15 13 false 1 14,fg 16 13 false 0 3,lg 17 13 false 1 16,rF 18 13 false .eql 15 17,df 19 18 13 false,fg 20 19 true 1 2,lg 21 19 true 1 20,fg 22 19 true 1 3,lg 23 19 true 1 22,rF 24 19 true .lss 21 23,df 25 24 19 true,fg 26 25 false 1 2,lg 27 25 false 1 26,fg 28 25 false 1 3,lg 29 25 false 1 28,rF 30 25 false .eql 27 29,df 31 30 25 false,fg 32 31 true 2 2,lg 33 31 true 1 32,fg 34 31 true 2 3,lg 35 31 true 1 34,rF 36 31 true .lss 33 35,du 37 25 false (.pick (.t 31) (.t 36) (.c (.bool false))),du 38 19 true (.pick (.t 25) (.c (.bool true)) (.t 37)),du 39 13 false (.pick (.t 19) (.t 38) (.c (.bool false))),po 40 13 39,mv 7 40] [2,3,7]
 (.cond (.t 7) (ae [mi 4 (-1)] [4]
 .ret)
 (ae [fa 42 0 2,ld 43 1 42,fa 44 0 3,ld 45 1 44,bt 46 .neq 43 45,mv 47 46,fg 48 47 false 1 2,lg 49 47 false 1 48,fg 50 47 false 1 3,lg 51 47 false 1 50,rF 52 47 false .neq 49 51,po 53 47 52,mv 54 53,fg 55 54 false 2 2,lg 56 54 false 1 55,fg 57 54 false 2 3,lg 58 54 false 1 57,rF 59 54 false .neq 56 58,po 60 54 59,mv 41 60] [2,3,41]
 (.cond (.t 41) (ae [mi 4 1] [4]
 .ret)
 .skip)))))
 (.join [(2,false),(3,false)] (ae [mi 5 0] [2,3,5]
 (.block 1 (.loop [(2,false),(3,false),(5,false)] (.seq (ae [mv 61 5,fa 62 3 2,ld 63 1 62,le 64 0 63,bt 65 .lss 61 64,mv 66 65,df 67 5 66 true,fg 68 66 true 3 3,lg 69 66 true 1 68,du 70 66 true (.len 0 (.t 69)),rF 71 66 true .lss 67 70,pf 72 66 71] [2,3,5,72]
 (.cond (.t 72) .skip
 (.exit 1)))
 (.seq (.block 2 (.seq (.bJ (some 12) [fa 75 3 2,ld 76 1 75,mv 77 5,ia 78 pr 76 77,lm 79 4 78,fa 80 3 3,ld 81 1 80,mv 82 5,ia 83 pr 81 82,lm 84 4 83,c2 85 41 79 84,mv 6 85] [2,3,5,6])
 (ae [mv 86 6,bn 87 .neq 86 0] [2,3,5,6,87]
 (.cond (.t 87) (ae [mv 88 6,mv 4 88] [4]
 .ret)
 .skip))))
 (.bJ none [mv 73 5,bn 74 .add 73 1,mv 5 74] [2,3,5]))))))
 (.seq (ae [fa 89 3 2,ld 90 1 89,le 91 0 90,fa 92 3 3,ld 93 1 92,le 94 0 93,bt 95 .lss 91 94] [2,3,95]
 (.cond (.t 95) (ae [mi 4 (-1)] [4]
 .ret)
 .skip))
 (.seq (ae [fa 96 3 2,ld 97 1 96,le 98 0 97,fa 99 3 3,ld 100 1 99,le 101 0 100,bt 102 .gtr 98 101] [102]
 (.cond (.t 102) (ae [mi 4 1] [4]
 .ret)
 .skip))
 (ae [mi 4 0] [4]
 .ret))))))
theorem CF:aE prog 41 103 [⟨4,true,none⟩] ss=true:=by kernel_rfl
theorem Db{fuel:Nat}:∀{a_0:aa}{b_1:aa}{s:ab}{Q:List AV->ab->Prop},ok (cC fuel a_0 b_1) (fun r=>Q [.int .i64 r] s)->FN prog 41 [oV a_0,oV b_1] s Q:=by
 induction fuel with
 |zero=>intros;rename_i h;rw[cC]at h;exact absurd h (by rw[ok_none];exact fun h=>h)
 |succ fuel ih=>
 have AW:∀{a_0:aa}{b_1:aa}{s:ab}{r:Int},cC fuel a_0 b_1=some r->FE prog 41 [oV a_0,oV b_1] s [.int .i64 r] s:=fun h=>ih ⟨_,h,rfl,rfl⟩
 intro a_0 b_1 s Q
 intro h
 refine FO CF rfl rfl ?_
 revert h
 rw[ss,cC]
 repeat'(first
  |(with_reducible first|exact bW|refine bj ?_ ?_|refine ch ?_|refine ba (fun _(h:cC fuel (ix a_0.L k4) (ix b_1.L k4)=some _)=>AW h) (fun _=>rfl) (fun r8=>?_))
  |((with_reducible refine aY (fun(k4:Int)=>⟨[(2,.loc [.int .i64 a_0.Kind,.int .i64 a_0.N,.str a_0.S.b,sF 4 a_0.L]),(3,.loc [.int .i64 b_1.Kind,.int .i64 b_1.N,.str b_1.S.b,sF 4 b_1.L]),(5,.int .i64 k4)],[],s⟩) ?_ ?_);(first|exact rfl|simp -implicitDefEqProofs only[go_sem,seval]);rintro J k4)
  |((with_reducible refine dD (fun(_:Unit)=>⟨[(2,.loc [.int .i64 a_0.Kind,.int .i64 a_0.N,.str a_0.S.b,sF 4 a_0.L]),(3,.loc [.int .i64 b_1.Kind,.int .i64 b_1.N,.str b_1.S.b,sF 4 b_1.L])],[],s⟩) (fun J=>?_) ?_);rotate_left;rintro _)
  |simp -implicitDefEqProofs only[go_sem,seval])
theorem Da{fuel:Nat}{a_0 b_1}{s:ab}{r:Int}(h:cC fuel a_0 b_1=some r):FE prog 41 [oV a_0,oV b_1] s [.int .i64 r] s:=Db ⟨r,h,rfl,rfl⟩
def iP(a_0:aa)(b_1:aa):Option (Bool):=
 aJ (cC iu a_0 b_1) fun r1=>
 some (r1==0)
def yy:IC:=
 (ae [i1 2 (.b8 4 (.t 0)),i1 3 (.b8 4 (.t 1)),cZ 4 (.bool false)] [2,3]
 (ae [lm 5 4 2,lm 6 4 3,c2 7 41 5 6,bn 8 .eql 7 0,mv 4 8] [4]
 .ret))
theorem JI:aE prog 14 9 [⟨4,true,none⟩] yy=true:=by kernel_rfl
theorem Kk{a_0 b_1}{s:ab}{Q:List AV->ab->Prop}:ok (iP a_0 b_1) (fun r=>Q [.bool r] s)->FN prog 14 [oV a_0,oV b_1] s Q:=by
 intro h
 refine FO JI rfl rfl ?_
 revert h
 rw[yy,iP]
 repeat'(first
  |with_reducible refine ah (fun _(h:cC iu a_0 b_1=some _)=>Da h) (fun r1=>?_)
  |simp -implicitDefEqProofs only[go_sem,seval])
theorem yY{a_0 b_1}{s:ab}{r:Bool}(h:iP a_0 b_1=some r):FE prog 14 [oV a_0,oV b_1] s [.bool r] s:=Kk ⟨r,h,rfl,rfl⟩
def kY(a_0:af)(b_1:af):Option (Bool):=
 aJ (iP a_0.V b_1.V) fun r1=>
 some ((r1&&((a_0.Stream==b_1.Stream)!=false))&&(a_0.Data.b==b_1.Data.b))
def yD:IC:=
 (ae [i1 2 (.b8 6 (.t 0)),i1 3 (.b8 6 (.t 1)),cZ 4 (.bool false)] [2,3]
 (ae [fa 5 0 2,lm 6 4 5,fa 7 0 3,lm 8 4 7,c2 9 14 6 8,mv 10 9,fg 11 10 true 4 2,lg 12 10 true 1 11,fg 13 10 true 4 3,lg 14 10 true 1 13,du 15 10 true (.VA false (.t 12) (.t 14)),pf 16 10 15,mv 17 16,fg 18 17 true 5 2,lg 19 17 true 1 18,fg 20 17 true 5 3,lg 21 17 true 1 20,rF 22 17 true .eql 19 21,pf 23 17 22,mv 4 23] [4]
 .ret))
theorem JN:aE prog 110 24 [⟨4,true,none⟩] yD=true:=by kernel_rfl
theorem Kt{a_0 b_1}{s:ab}{Q:List AV->ab->Prop}:ok (kY a_0 b_1) (fun r=>Q [.bool r] s)->FN prog 110 [.agg [.int .i64 a_0.V.Kind,.int .i64 a_0.V.N,.str a_0.V.S.b,sF 4 a_0.V.L,.bool a_0.Stream,.str a_0.Data.b],.agg [.int .i64 b_1.V.Kind,.int .i64 b_1.V.N,.str b_1.V.S.b,sF 4 b_1.V.L,.bool b_1.Stream,.str b_1.Data.b]] s Q:=by
 intro h
 refine FO JN rfl rfl ?_
 revert h
 rw[yD,kY]
 repeat'(first
  |with_reducible refine ah (fun _(h:iP a_0.V b_1.V=some _)=>yY h) (fun r1=>?_)
  |simp -implicitDefEqProofs only[go_sem,seval])
theorem Ks{a_0 b_1}{s:ab}{r:Bool}(h:kY a_0 b_1=some r):FE prog 110 [.agg [.int .i64 a_0.V.Kind,.int .i64 a_0.V.N,.str a_0.V.S.b,sF 4 a_0.V.L,.bool a_0.Stream,.str a_0.Data.b],.agg [.int .i64 b_1.V.Kind,.int .i64 b_1.V.N,.str b_1.V.S.b,sF 4 b_1.V.L,.bool b_1.Stream,.str b_1.Data.b]] s [.bool r] s:=Kt ⟨r,h,rfl,rfl⟩
def kZ(a_0:(List af))(b_1:(List af)):Option (Bool):=
 if(a_0.length:Int)!=(b_1.length:Int)then
  some false
 else
  yS (
   jY (
    iter (fun(k2:Int)=>
     if decide (k2<(a_0.length:Int))then
      aB (0<=k2/\k2<a_0.length)<|
      aB (0<=k2/\k2<b_1.length)<|
      aJ (kY (ix a_0 k2) (ix b_1 k2)) fun r4=>
      if !r4 then
       some (.inr (.inr false))
      else
       some (.inl (bd (k2+1)))
     else
      some (.inr (.inl ()))) 0) (fun(_:Unit)=>
    some (.inl ()))
   (fun(t3:Bool)=>some (.inr t3))) (fun(_:Unit)=>
   some true)
  (fun(t1:Bool)=>some t1)
def yE:IC:=
 (ae [cZ 4 (.bool false)] [0,1]
 (.seq (ae [mv 6 0,le 7 0 6,mv 8 1,le 9 0 8,bt 10 .neq 7 9] [0,1,10]
 (.cond (.t 10) (ae [cZ 4 (.bool false)] [4]
 .ret)
 .skip))
 (.join [] (ae [mi 5 0] [0,1,5]
 (.block 0 (.loop [(0,true),(1,true),(5,false)] (.seq (ae [mv 11 5,mv 12 0,le 13 0 12,bt 14 .lss 11 13] [0,1,5,14]
 (.cond (.t 14) .skip
 (.exit 0)))
 (.seq (.block 1 (.seq (.bJ (some 10) [mv 17 0,mv 18 5,ia 19 TR 17 18,lm 20 6 19,mv 21 1,mv 22 5,ia 23 TR 21 22,lm 24 6 23,c2 25 110 20 24,no 26 25] [0,1,5,26])
 (.cond (.t 26) (ae [cZ 4 (.bool false)] [4]
 .ret)
 .skip)))
 (.bJ none [mv 15 5,bn 16 .add 15 1,mv 5 16] [0,1,5]))))))
 (ae [cZ 4 (.bool true)] [4]
 .ret))))
theorem JO:aE prog 51 27 [⟨4,true,none⟩] yE=true:=by kernel_rfl
theorem Kv{a_0 b_1}{s:ab}{Q:List AV->ab->Prop}:ok (kZ a_0 b_1) (fun r=>Q [.bool r] s)->FN prog 51 [sF 6 a_0,sF 6 b_1] s Q:=by
 intro h
 refine FO JO rfl rfl ?_
 revert h
 rw[yE,kZ]
 repeat'(first
  |(with_reducible first|exact bW|refine bj ?_ ?_|refine ch ?_|refine ba (fun _(h:kY (ix a_0 k2) (ix b_1 k2)=some _)=>Ks h) (fun _=>rfl) (fun r4=>?_))
  |((with_reducible refine aY (fun(k2:Int)=>⟨[(0,sF 6 a_0),(1,sF 6 b_1),(5,.int .i64 k2)],[],s⟩) ?_ ?_);(first|exact rfl|simp -implicitDefEqProofs only[go_sem,seval]);rintro J k2)
  |((with_reducible refine dD (fun(_:Unit)=>⟨[],[],s⟩) (fun J=>?_) ?_);rotate_left;rintro _)
  |simp -implicitDefEqProofs only[go_sem,seval])
theorem Ku{a_0 b_1}{s:ab}{r:Bool}(h:kZ a_0 b_1=some r):FE prog 51 [sF 6 a_0,sF 6 b_1] s [.bool r] s:=Kv ⟨r,h,rfl,rfl⟩
def k7(a_0:bL)(b_1:bL):Option (Bool):=
 aJ (kZ a_0.ak b_1.ak) fun r1=>
 aJ (mB r1 false (iP a_0.ag b_1.ag)) fun r2=>
 some (r1&&r2)
def yJ:IC:=
 (ae [i1 2 (.b8 5 (.t 0)),i1 3 (.b8 5 (.t 1)),cZ 4 (.bool false)] [2,3]
 (.seq (.bJ (some 11) [fa 5 0 2,ld 6 1 5,fa 7 0 3,ld 8 1 7,c2 9 51 6 8,mv 10 9,fg 11 10 true 1 2,du 12 10 true (.load 4 true (.t 11)),fg 13 10 true 1 3,du 14 10 true (.load 4 true (.t 13)),qd2 15 10 true 14 12 14,pf 16 10 15,mv 4 16] [4])
 .ret))
theorem JT:aE prog 21 17 [⟨4,true,none⟩] yJ=true:=by kernel_rfl
theorem KC{a_0 b_1}{s:ab}{Q:List AV->ab->Prop}:ok (k7 a_0 b_1) (fun r=>Q [.bool r] s)->FN prog 21 [.agg [sF 6 a_0.ak,.int .i64 a_0.ag.Kind,.int .i64 a_0.ag.N,.str a_0.ag.S.b,sF 4 a_0.ag.L],.agg [sF 6 b_1.ak,.int .i64 b_1.ag.Kind,.int .i64 b_1.ag.N,.str b_1.ag.S.b,sF 4 b_1.ag.L]] s Q:=by
 intro h
 refine FO JT rfl rfl ?_
 revert h
 rw[yJ,k7]
 repeat'(first
  |(with_reducible first|refine ba (fun _(h:kZ a_0.ak b_1.ak=some _)=>Ku h) (fun _=>rfl) (fun r1=>?_)|refine fP rfl (fun _(h:iP a_0.ag b_1.ag=some _)=>yY h) (fun _=>rfl) (fun r2=>?_))
  |simp -implicitDefEqProofs only[go_sem,seval])
theorem y5{a_0 b_1}{s:ab}{r:Bool}(h:k7 a_0 b_1=some r):FE prog 21 [.agg [sF 6 a_0.ak,.int .i64 a_0.ag.Kind,.int .i64 a_0.ag.N,.str a_0.ag.S.b,sF 4 a_0.ag.L],.agg [sF 6 b_1.ak,.int .i64 b_1.ag.Kind,.int .i64 b_1.ag.N,.str b_1.ag.S.b,sF 4 b_1.ag.L]] s [.bool r] s:=KC ⟨r,h,rfl,rfl⟩
def wN(d_0:aD):Option (dH):=some (dH.mk d_0.ak (nh.mk ([]:List UInt8) ([]:List Bool)) (lz.mk ([]:List Int) d_0.cM))
def DZ:IC:=
 (ae [i1 1 (.b8 2 (.t 0)),i1 2 (.an [.bool false,.sl true 6 0 [],.sl true 1 0 [],.sl true 1 0 [],.sl true 1 0 [],.int .i64 0])] [1,2]
 (ae [fa 3 0 1,ld 4 1 3,fa 5 1 1,ld 6 1 5,i1 7 (.build [.sl true 1 0 [],.int .i64 0] [(1,1,(.t 6))]),i1 8 (.build [.bool false,.sl true 6 0 [],.sl true 1 0 [],.sl true 1 0 [],.sl true 1 0 [],.int .i64 0] [(0,1,(.c (.bool true))),(1,1,(.t 4)),(4,2,(.t 7))]),st 6 2 8] [2]
 .ret))
theorem PX:aE prog 20 9 [⟨2,false,some (6,true)⟩] DZ=true:=by kernel_rfl
theorem QE{d_0}{s:ab}{Q:List AV->ab->Prop}:ok (wN d_0) (fun r=>Q [.agg [.bool true,sF 6 r.ak,sF 1 r.Bytes.B,sF 1 r.Bytes.lh,sF 1 r.Table.de,.int .i64 r.Table.cM]] s)->FN prog 20 [.agg [sF 6 d_0.ak,.int .i64 d_0.cM]] s Q:=by
 intro h
 refine FO PX rfl rfl ?_
 revert h
 rw[DZ,wN]
 repeat'(first
  |simp -implicitDefEqProofs only[go_sem,seval])
theorem QD{d_0}{s:ab}{r:dH}(h:wN d_0=some r):FE prog 20 [.agg [sF 6 d_0.ak,.int .i64 d_0.cM]] s [.agg [.bool true,sF 6 r.ak,sF 1 r.Bytes.B,sF 1 r.Bytes.lh,sF 1 r.Table.de,.int .i64 r.Table.cM]] s:=QE ⟨r,h,rfl,rfl⟩
def jJ(dP:(List Int))(n_1:Int):Option (Int):=
 yS (
  jY (
   iter (fun(k2:Int)=>
    if decide (k2<(dP.length:Int))then
     aB (0<=k2/\k2<dP.length)<|
     if(((ix dP k2)==n_1)&&(decide (n_1>=1)))&&(decide (n_1<=4096))then
      some (.inr (.inr (bd (k2+1))))
     else
      some (.inl (bd (k2+1)))
    else
     some (.inr (.inl ()))) 0) (fun(_:Unit)=>
   some (.inl ()))
  (fun(t3:Int)=>some (.inr t3))) (fun(_:Unit)=>
  some 0)
 (fun(t1:Int)=>some t1)
def vS:IC:=
 (ae [mi 4 0] [0,1]
 (.join [] (ae [mi 5 0] [0,1,5]
 (.block 0 (.loop [(0,true),(1,false),(5,false)] (.seq (ae [mv 6 5,mv 7 0,le 8 0 7,bt 9 .lss 6 8] [0,1,5,9]
 (.cond (.t 9) .skip
 (.exit 0)))
 (.seq (.block 1 (ae [mv 12 0,mv 13 5,ia 14 jv 12 13,ld 15 1 14,mv 16 1,bt 17 .eql 15 16,mv 18 17,df 19 1 18 true,ju 20 18 true .geq 19 1,pf 21 18 20,mv 22 21,df 23 1 22 true,ju 24 22 true .leq 23 4096,pf 25 22 24] [0,1,5,25]
 (.cond (.t 25) (ae [mv 26 5,bn 27 .add 26 1,mv 4 27] [4]
 .ret)
 .skip)))
 (.bJ none [mv 10 5,bn 11 .add 10 1,mv 5 11] [0,1,5]))))))
 (ae [mi 4 0] [4]
 .ret)))
theorem Hm:aE prog 113 28 [⟨4,true,none⟩] vS=true:=by kernel_rfl
theorem Ix{dP n_1}{s:ab}{Q:List AV->ab->Prop}:ok (jJ dP n_1) (fun r=>Q [.int .i64 r] s)->FN prog 113 [sF 1 dP,.int .i64 n_1] s Q:=by
 intro h
 refine FO Hm rfl rfl ?_
 revert h
 rw[vS,jJ]
 repeat'(first
  |((with_reducible refine aY (fun(k2:Int)=>⟨[(0,sF 1 dP),(1,.int .i64 n_1),(5,.int .i64 k2)],[],s⟩) ?_ ?_);(first|exact rfl|simp -implicitDefEqProofs only[go_sem,seval]);rintro J k2)
  |((with_reducible refine dD (fun(_:Unit)=>⟨[],[],s⟩) (fun J=>?_) ?_);rotate_left;rintro _)
  |simp -implicitDefEqProofs only[go_sem,seval])
theorem Iw{dP n_1}{s:ab}{r:Int}(h:jJ dP n_1=some r):FE prog 113 [sF 1 dP,.int .i64 n_1] s [.int .i64 r] s:=Ix ⟨r,h,rfl,rfl⟩
def dA:Nat->aa->(List Int)->Option (aa)
 |0,_,_=>none
 |fuel+1,v_0,qt=>
  if v_0.Kind==8 then
   aJ (jJ qt v_0.N) fun r1=>
   if r1==0 then
    some (aa.mk 0 0 (ar.mk []) ([]:List aa))
   else
    some (aa.mk 8 r1 (ar.mk []) ([]:List aa))
  else
   jn (
    if(v_0.Kind==6)||(v_0.Kind==7)then
     jn (
      iter (fun((l7,k8):(List aa)×Int)=>
       if decide (k8<(v_0.L.length:Int))then
        aB (0<=k8/\k8<v_0.L.length)<|
        aJ (dA fuel (ix v_0.L k8) qt) fun r12=>
        aB ((l7.length+[r12].length)*56<=room)<|
        some (.inl (l7++[r12],bd (k8+1)))
       else
        some (.inr l7)) (([]:List aa),0)) fun(l6:(List aa))=>
     some (aa.mk v_0.Kind v_0.N v_0.S l6)
    else
     some v_0) fun(v2:aa)=>
   some v2
def uk:IC:=
 (ae [i1 2 (.b8 4 (.t 0)),i1 4 (.an gj)] [1,2,4]
 (.seq (ae [fa 8 0 2,ld 9 1 8,bn 10 .eql 9 8] [1,2,4,10]
 (.cond (.t 10) (ae [mt 11 1,fa 12 1 2,ld 13 1 12,c2 14 113 11 13,mv 5 14] [4,5]
 (.seq (ae [mv 15 5,bn 16 .eql 15 0] [4,5,16]
 (.cond (.t 16) (ae [i1 17 (.build gj []),st 4 4 17] [4]
 .ret)
 .skip))
 (ae [mv 18 5,i1 19 (.build gj [(0,1,(.c (.int .i64 8))),(1,1,(.t 18))]),st 4 4 19] [4]
 .ret)))
 .skip))
 (.join [(2,false),(4,false)] (ae [fa 20 0 2,ld 21 1 20,bn 22 .eql 21 6,mv 23 22,fg 24 23 false 0 2,lg 25 23 false 1 24,ju 26 23 false .eql 25 7,po 27 23 26] [1,2,4,27]
 (.cond (.t 27) (ae [i1 6 (.ib true (.c (.sl true 4 0 [])))] [1,2,4,6]
 (.join [(2,false),(4,false),(6,false)] (ae [mi 7 0] [1,2,4,6,7]
 (.block 0 (.loop [(1,true),(2,false),(4,false),(6,false),(7,false)] (.seq (ae [mv 28 7,fa 29 3 2,ld 30 1 29,le 31 0 30,bt 32 .lss 28 31] [1,2,4,6,7,32]
 (.cond (.t 32) .skip
 (.exit 0)))
 (.seq (.block 1 (.bJ none [mt 35 6,fa 36 3 2,ld 37 1 36,mv 38 7,ia 39 pr 37 38,lm 40 4 39,mv 41 1,c2 42 55 40 41,i1 43 (.aN 4 1 gj [(0,4,(.t 42))]),Ec 44 4 56 35 43,mt 6 44] [1,2,4,6,7]))
 (.bJ none [mv 33 7,bn 34 .add 33 1,mv 7 34] [1,2,4,6,7]))))))
 (.bJ none [mv 45 6,fa 46 3 2,st 1 46 45] [2,4])))
 .skip))
 (ae [lm 47 4 2,st 4 4 47] [4]
 .ret))))
theorem EJ:aE prog 55 48 [⟨4,false,some (4,true)⟩] uk=true:=by kernel_rfl
theorem E0{fuel:Nat}:∀{v_0:aa}{qt:(List Int)}{s:ab}{Q:List AV->ab->Prop},ok (dA fuel v_0 qt) (fun r=>Q [oV r] s)->FN prog 55 [oV v_0,sF 1 qt] s Q:=by
 induction fuel with
 |zero=>intros;rename_i h;rw[dA]at h;exact absurd h (by rw[ok_none];exact fun h=>h)
 |succ fuel ih=>
 have AW:∀{v_0:aa}{qt:(List Int)}{s:ab}{r:aa},dA fuel v_0 qt=some r->FE prog 55 [oV v_0,sF 1 qt] s [oV r] s:=fun h=>ih ⟨_,h,rfl,rfl⟩
 intro v_0 qt s Q
 intro h
 refine FO EJ rfl rfl ?_
 revert h
 rw[uk,dA]
 repeat'(first
  |(with_reducible first|exact bW|refine bj ?_ ?_|refine ch ?_|refine ah (fun _(h:jJ qt v_0.N=some _)=>Iw h) (fun r1=>?_)|refine ah (fun _(h:dA fuel (ix v_0.L k8) qt=some _)=>AW h) (fun r12=>?_))
  |((with_reducible refine aY (fun((l7,k8):(List aa)×Int)=>⟨[(1,sF 1 qt),(2,.loc [.int .i64 v_0.Kind,.int .i64 v_0.N,.str v_0.S.b,sF 4 v_0.L]),(4,.loc [.int .i64 0,.int .i64 0,.str (ar.mk []).b,.sl true 4 0 []]),(6,sT 4 l7),(7,.int .i64 k8)],[],s⟩) ?_ ?_);(first|exact rfl|simp -implicitDefEqProofs only[go_sem,seval]);rintro J ⟨l7,k8⟩)
  |((with_reducible refine bT (live:=[(2,false),(4,false),(6,false)]) (fun(l6:(List aa))=>⟨[(2,.loc [.int .i64 v_0.Kind,.int .i64 v_0.N,.str v_0.S.b,sF 4 v_0.L]),(4,.loc [.int .i64 0,.int .i64 0,.str (ar.mk []).b,.sl true 4 0 []]),(6,sT 4 l6)],[],s⟩) (fun J=>?_) ?_);rotate_left;rintro l6)
  |((with_reducible refine bT (live:=[(2,false),(4,false)]) (fun(v2:aa)=>⟨[(2,.loc [.int .i64 v2.Kind,.int .i64 v2.N,.str v2.S.b,sF 4 v2.L]),(4,.loc [.int .i64 0,.int .i64 0,.str (ar.mk []).b,.sl true 4 0 []])],[],s⟩) (fun J=>?_) ?_);rotate_left;rintro v2)
  |simp -implicitDefEqProofs only[go_sem,seval])
theorem uA{fuel:Nat}{v_0 qt}{s:ab}{r:aa}(h:dA fuel v_0 qt=some r):FE prog 55 [oV v_0,sF 1 qt] s [oV r] s:=E0 ⟨r,h,rfl,rfl⟩
def fX(dP:(List Int))(l_1:(List af))(cE:aa):Option (bL):=
 jn (
  iter (fun((rB,k6):bL×Int)=>
   if decide (k6<(l_1.length:Int))then
    aB (0<=k6/\k6<l_1.length)<|
    jn (
     if k6==0 then
      aJ (iO ((ix l_1 k6).V) (ar.mk [80,97,114,101,110,116])) fun r18=>
      some (af.mk r18 ((ix l_1 k6).Stream) ((ix l_1 k6).Data))
     else
      some (ix l_1 k6)) fun(o17:af)=>
    aJ (dA iu o17.V dP) fun r19=>
    aB ((rB.ak.length+[(af.mk r19 o17.Stream o17.Data)].length)*80<=room)<|
    some (.inl ((bL.mk (rB.ak++[(af.mk r19 o17.Stream o17.Data)]) rB.ag),bd (k6+1)))
   else
    some (.inr rB)) ((bL.mk ([]:List af) (aa.mk 0 0 (ar.mk []) ([]:List aa))),0)) fun(kb:bL)=>
 aJ (dA iu cE dP) fun r20=>
 some (bL.mk kb.ak r20)
def qH:IC:=
 (ae [i1 5 (.b8 4 (.t 2)),i1 6 (.an [.sl true 6 0 [],.int .i64 0,.int .i64 0,.str [],.sl true 4 0 []])] [0,1,5,6]
 (ae [i1 7 (.an [.sl true 6 0 [],.int .i64 0,.int .i64 0,.str [],.sl false 4 0 []])] [0,1,5,6,7]
 (.join [(0,true),(5,false),(6,false),(7,false)] (ae [mi 8 0] [0,1,5,6,7,8]
 (.block 0 (.loop [(0,true),(1,true),(5,false),(6,false),(7,false),(8,false)] (.seq (ae [mv 10 8,mv 11 1,le 12 0 11,bt 13 .lss 10 12] [0,1,5,6,7,8,13]
 (.cond (.t 13) .skip
 (.exit 0)))
 (.seq (.block 1 (ae [mv 16 1,mv 17 8,ia 18 TR 16 17,lm 19 6 18,i1 9 (.an qR),st 6 9 19] [0,1,5,6,7,8,9]
 (.join [(0,true),(1,true),(5,false),(6,false),(7,false),(8,false),(9,false)] (ae [mv 20 8,bn 21 .eql 20 0] [0,1,5,6,7,8,9,21]
 (.cond (.t 21) (.bJ none [fa 22 0 9,lm 23 4 22,i1 24 (.call 54 [(.t 23),(.c (.str [80,97,114,101,110,116]))]),fa 25 0 9,st 4 25 24] [0,1,5,6,7,8,9])
 .skip))
 (ae [fa 26 0 9,lm 27 4 26,mv 28 0,c2 29 55 27 28,fa 30 0 9,st 4 30 29] [0,1,5,6,7,8,9]
 (.bJ none [fa 31 0 7,i1 32 (.jq (.t 31)),lm 33 6 9,i1 34 (.aN 6 1 qR [(0,6,(.t 33))]),Ec 35 6 80 32 34,fa 36 0 7,st 1 36 35] [0,1,5,6,7,8])))))
 (.bJ none [mv 14 8,bn 15 .add 14 1,mv 8 15] [0,1,5,6,7,8]))))))
 (ae [lm 37 4 5,mt 38 0,c2 39 55 37 38,fa 40 1 7,st 4 40 39] [6,7]
 (ae [lm 41 5 7,st 5 6 41] [6]
 .ret)))))
theorem Bu:aE prog 24 42 [⟨6,false,some (5,true)⟩] qH=true:=by kernel_rfl
theorem BQ{dP l_1 cE}{s:ab}{Q:List AV->ab->Prop}:ok (fX dP l_1 cE) (fun r=>Q [.agg [sF 6 r.ak,.int .i64 r.ag.Kind,.int .i64 r.ag.N,.str r.ag.S.b,sF 4 r.ag.L]] s)->FN prog 24 [sF 1 dP,sF 6 l_1,oV cE] s Q:=by
 intro h
 refine FO Bu rfl rfl ?_
 revert h
 rw[qH,fX]
 repeat'(first
  |(with_reducible first|exact bW|refine bj ?_ ?_|refine ch ?_|refine ah (fun _(h:iO ((ix l_1 k6).V) (ar.mk [80,97,114,101,110,116])=some _)=>yX h) (fun r18=>?_)|refine ah (fun _(h:dA iu o17.V dP=some _)=>uA h) (fun r19=>?_)|refine ah (fun _(h:dA iu cE dP=some _)=>uA h) (fun r20=>?_))
  |((with_reducible refine bT (live:=[(0,true),(1,true),(5,false),(6,false),(7,false),(8,false),(9,false)]) (fun(o17:af)=>⟨[(0,sF 1 dP),(1,sF 6 l_1),(5,.loc [.int .i64 cE.Kind,.int .i64 cE.N,.str cE.S.b,sF 4 cE.L]),(6,.loc [.sl true 6 0 [],.int .i64 0,.int .i64 0,.str (ar.mk []).b,.sl true 4 0 []]),(7,.loc [sT 6 rB.ak,.int .i64 rB.ag.Kind,.int .i64 rB.ag.N,.str rB.ag.S.b,sF 4 rB.ag.L]),(8,.int .i64 k6),(9,.loc [.int .i64 o17.V.Kind,.int .i64 o17.V.N,.str o17.V.S.b,sF 4 o17.V.L,.bool o17.Stream,.str o17.Data.b])],[],s⟩) (fun J=>?_) ?_);rotate_left;rintro o17)
  |((with_reducible refine aY (fun((rB,k6):bL×Int)=>⟨[(0,sF 1 dP),(1,sF 6 l_1),(5,.loc [.int .i64 cE.Kind,.int .i64 cE.N,.str cE.S.b,sF 4 cE.L]),(6,.loc [.sl true 6 0 [],.int .i64 0,.int .i64 0,.str (ar.mk []).b,.sl true 4 0 []]),(7,.loc [sT 6 rB.ak,.int .i64 rB.ag.Kind,.int .i64 rB.ag.N,.str rB.ag.S.b,sF 4 rB.ag.L]),(8,.int .i64 k6)],[],s⟩) ?_ ?_);(first|exact rfl|simp -implicitDefEqProofs only[go_sem,seval]);rintro J ⟨rB,k6⟩)
  |((with_reducible refine bT (live:=[(0,true),(5,false),(6,false),(7,false)]) (fun(kb:bL)=>⟨[(0,sF 1 dP),(5,.loc [.int .i64 cE.Kind,.int .i64 cE.N,.str cE.S.b,sF 4 cE.L]),(6,.loc [.sl true 6 0 [],.int .i64 0,.int .i64 0,.str (ar.mk []).b,.sl true 4 0 []]),(7,.loc [sT 6 kb.ak,.int .i64 kb.ag.Kind,.int .i64 kb.ag.N,.str kb.ag.S.b,sF 4 kb.ag.L])],[],s⟩) (fun J=>?_) ?_);rotate_left;rintro kb)
  |simp -implicitDefEqProofs only[go_sem,seval])
theorem BP{dP l_1 cE}{s:ab}{r:bL}(h:fX dP l_1 cE=some r):FE prog 24 [sF 1 dP,sF 6 l_1,oV cE] s [.agg [sF 6 r.ak,.int .i64 r.ag.Kind,.int .i64 r.ag.N,.str r.ag.S.b,sF 4 r.ag.L]] s:=BQ ⟨r,h,rfl,rfl⟩
def n9(f_0:dH)(p_1:Int):Option (bL×Int×Int):=
 aJ (jG f_0 p_1) fun r1=>
 if r1.2.2 !=0 then
  some ((bL.mk ([]:List af) (aa.mk 0 0 (ar.mk []) ([]:List aa))),r1.2.1,r1.2.2)
 else
  aJ (fM f_0 r1.1) fun r2=>
  if r2.2.2.2 !=0 then
   some ((bL.mk ([]:List af) (aa.mk 0 0 (ar.mk []) ([]:List aa))),r2.2.2.1,r2.2.2.2)
  else
   aJ (fX r2.1 r2.2.1 r1.1.ag) fun r3=>
   some (r3,0,0)
def D1:IC:=
 (ae [i1 2 (.b8 6 (.t 0)),i1 4 (.an [.sl true 6 0 [],.int .i64 0,.int .i64 0,.str [],.sl true 4 0 []]),mi 5 0,mi 6 0] [1,2,4]
 (ae [lm 15 6 2,mv 16 1,c2 17 49 15 16,gi 14 17,ex 18 14 0,ex 19 14 1,ex 20 14 2,i1 7 (.an Fz),st 6 7 18,mv 8 19,mv 9 20] [2,4,7,8,9]
 (.seq (ae [mv 21 9,bn 22 .neq 21 0] [2,4,7,8,9,22]
 (.cond (.t 22) (ae [i1 23 (.build [.sl true 6 0 [],.int .i64 0,.int .i64 0,.str [],.sl true 4 0 []] []),mv 24 8,mv 25 9,st 5 4 23,mv 5 24,mv 6 25] [4,5,6]
 .ret)
 .skip))
 (ae [lm 27 6 2,lm 28 6 7,c2 29 50 27 28,gi 26 29,ex 30 26 0,ex 31 26 1,ex 32 26 2,ex 33 26 3,mt 10 30,mt 11 31,mv 12 32,mv 13 33] [4,7,10,11,12,13]
 (.seq (ae [mv 34 13,bn 35 .neq 34 0] [4,7,10,11,12,13,35]
 (.cond (.t 35) (ae [i1 36 (.build [.sl true 6 0 [],.int .i64 0,.int .i64 0,.str [],.sl true 4 0 []] []),mv 37 12,mv 38 13,st 5 4 36,mv 5 37,mv 6 38] [4,5,6]
 .ret)
 .skip))
 (ae [mt 39 10,mt 40 11,fa 41 2 7,lm 42 4 41,c3 43 24 39 40 42,st 5 4 43,mi 5 0,mi 6 0] [4,5,6]
 .ret))))))
theorem PZ:aE prog 19 44 [⟨4,false,some (5,true)⟩,⟨5,true,none⟩,⟨6,true,none⟩] D1=true:=by kernel_rfl
theorem QH{f_0 p_1}{s:ab}{Q:List AV->ab->Prop}:ok (n9 f_0 p_1) (fun r=>Q [.agg [sF 6 r.1.ak,.int .i64 r.1.ag.Kind,.int .i64 r.1.ag.N,.str r.1.ag.S.b,sF 4 r.1.ag.L],.int .i64 r.2.1,.int .i64 r.2.2] s)->FN prog 19 [.agg [.bool true,sF 6 f_0.ak,sF 1 f_0.Bytes.B,sF 1 f_0.Bytes.lh,sF 1 f_0.Table.de,.int .i64 f_0.Table.cM],.int .i64 p_1] s Q:=by
 intro h
 refine FO PZ rfl rfl ?_
 revert h
 rw[D1,n9]
 repeat'(first
  |(with_reducible first|exact bW|refine bj ?_ ?_|refine ch ?_|refine ah (fun _(h:jG f_0 p_1=some _)=>Kw h) (fun r1=>?_)|refine ah (fun _(h:fM f_0 r1.1=some _)=>Dc h) (fun r2=>?_)|refine ah (fun _(h:fX r2.1 r2.2.1 r1.1.ag=some _)=>BP h) (fun r3=>?_))
  |simp -implicitDefEqProofs only[go_sem,seval])
theorem QG{f_0 p_1}{s:ab}{r:bL×Int×Int}(h:n9 f_0 p_1=some r):FE prog 19 [.agg [.bool true,sF 6 f_0.ak,sF 1 f_0.Bytes.B,sF 1 f_0.Bytes.lh,sF 1 f_0.Table.de,.int .i64 f_0.Table.cM],.int .i64 p_1] s [.agg [sF 6 r.1.ak,.int .i64 r.1.ag.Kind,.int .i64 r.1.ag.N,.str r.1.ag.S.b,sF 4 r.1.ag.L],.int .i64 r.2.1,.int .i64 r.2.2] s:=QH ⟨r,h,rfl,rfl⟩
end Go.AB
end
section
set_option maxRecDepth 4000
namespace Go.AB
open Go
open Go.Proofs.Tryz (prog)
attribute[-go_sem] cu dj bO ct Nat.add_zero mV bS
def vY:IC:=
 (ae [i1 2 (.b8 4 (.t 0)),i1 4 (.an gj)] [1,2,4]
 (.seq (ae [fa 8 0 2,ld 9 1 8] [1,2,4,9]
 (.block 0 (ae [bn 11 .eql 9 8,mv 10 11] [1,2,4,9,10]
 (.cond (.t 10) (.seq (ae [fa 12 1 2,ld 13 1 12,bn 14 .lss 13 1,mv 15 14,fg 16 15 false 1 2,lg 17 15 false 1 16,df 18 1 15 false,du 19 15 false (.len 0 (.t 18)),rF 20 15 false .gtr 17 19,po 21 15 20,mv 22 21,df 23 1 22 false,fg 24 22 false 1 2,lg 25 22 false 1 24,ju 26 22 false .sub 25 1,du 27 22 false (.indexAddr jv (.t 23) (.t 26)),du 28 22 false (.mM .i64 (.t 27)),ju 29 22 false .eql 28 0,po 30 22 29] [1,2,4,30]
 (.cond (.t 30) (ae [i1 31 (.build gj []),st 4 4 31] [4]
 .ret)
 .skip))
 (ae [mt 32 1,fa 33 1 2,ld 34 1 33,bn 35 .sub 34 1,ia 36 jv 32 35,ld 37 1 36,fa 38 1 2,st 1 38 37] [2,4]
 (ae [fa 39 1 2,ld 40 1 39,i1 41 (.build gj [(0,1,(.c (.int .i64 8))),(1,1,(.t 40))]),st 4 4 41] [4]
 .ret)))
 (.seq (ae [bn 43 .eql 9 6,mv 42 43] [1,2,4,9,42]
 (.cond (.t 42) .skip
 (.bJ none [bn 44 .eql 9 7,mv 42 44] [1,2,4,42])))
 (.cond (.t 42) (ae [fa 45 3 2,ld 46 1 45,le 47 0 46,i1 48 (.kN 4 56 pr (.t 47) (.t 47)),mt 5 48] [1,2,4,5]
 (.seq (ae [fa 49 3 2,ld 50 1 49,le 51 0 50,mi 52 0] [1,2,4,5,50,51,52]
 (.block 1 (.loop [(1,false),(2,false),(4,false),(5,false),(50,false),(51,false),(52,false)] (ae [bt 53 .lss 52 51] [1,2,4,5,50,51,52,53]
 (.seq (.cond (.t 53) .skip
 (.exit 1))
 (.seq (.block 2 (ae [mv 54 52,ia 55 pr 50 52,lm 56 4 55,i1 7 (.an gj),mv 6 54,st 4 7 56] [1,2,4,5,6,7,50,51,52]
 (.bJ none [mv 57 5,mv 58 6,lm 59 4 7,mv 60 1,c2 61 52 59 60,ia 62 pr 57 58,st 4 62 61] [1,2,4,5,50,51,52])))
 (.bJ none [bn 63 .add 52 1,mv 52 63] [1,2,4,5,50,51,52])))))))
 (.bJ none [i1 64 (.UB 4 true (.t 5)),fa 65 3 2,st 1 65 64] [2,4])))
 .skip))))))
 (ae [lm 66 4 2,st 4 4 66] [4]
 .ret)))
theorem Hs:aE prog 52 67 [⟨4,false,some (4,true)⟩] vY=true:=by kernel_rfl
def sy:IC:=
 (ae [i1 5 (.b8 4 (.t 2)),i1 6 (.an [.sl true 6 0 [],.int .i64 0,.int .i64 0,.str [],.sl true 4 0 []])] [0,1,5,6]
 (ae [i1 13 (.kN 1 8 jv (.c (.int .i64 4096)) (.c (.int .i64 4096))),mt 7 13] [0,1,5,6,7]
 (.seq (ae [mt 14 0,le 15 0 14,mi 16 0] [1,5,6,7,14,15,16]
 (.block 0 (.loop [(1,false),(5,false),(6,false),(7,false),(14,false),(15,false),(16,false)] (ae [bt 17 .lss 16 15] [1,5,6,7,14,15,16,17]
 (.seq (.cond (.t 17) .skip
 (.exit 0))
 (.seq (.block 1 (ae [mv 18 16,ia 19 jv 14 16,ld 20 1 19,mv 8 18,mv 9 20] [1,5,6,7,8,9,14,15,16]
 (ae [mv 21 9,bn 22 .geq 21 1,mv 23 22,df 24 9 23 true,ju 25 23 true .leq 24 4096,pf 26 23 25,mv 27 26,df 28 7 27 true,df 29 9 27 true,ju 30 27 true .sub 29 1,du 31 27 true (.indexAddr jv (.t 28) (.t 30)),du 32 27 true (.mM .i64 (.t 31)),ju 33 27 true .eql 32 0,pf 34 27 33] [1,5,6,7,8,9,14,15,16,34]
 (.cond (.t 34) (.bJ none [mv 35 7,mv 36 9,bn 37 .sub 36 1,mv 38 8,bn 39 .add 38 1,ia 40 jv 35 37,st 1 40 39] [1,5,6,7,14,15,16])
 .skip))))
 (.bJ none [bn 41 .add 16 1,mv 16 41] [1,5,6,7,14,15,16])))))))
 (ae [lm 42 4 5,mv 43 7,c2 44 52 42 43,i1 45 (.build [.arr 0 0 0 0,.int .i64 0,.int .i64 0,.str [],.sl true 4 0 []] [(1,4,(.t 44))]),i1 10 (.an [.sl true 6 0 [],.int .i64 0,.int .i64 0,.str [],.sl true 4 0 []]),i0 (.qw 6 5 (.t 10) (.t 45))] [1,6,7,10]
 (.seq (ae [mt 46 1,le 47 0 46,mi 48 0] [6,7,10,46,47,48]
 (.block 2 (.loop [(6,false),(7,false),(10,false),(46,false),(47,false),(48,false)] (ae [bt 49 .lss 48 47] [6,7,10,46,47,48,49]
 (.seq (.cond (.t 49) .skip
 (.exit 2))
 (.seq (.block 3 (ae [mv 50 48,ia 51 TR 46 48,lm 52 6 51,i1 12 (.an qR),mv 11 50,st 6 12 52] [6,7,10,11,12,46,47,48]
 (.seq (ae [mv 53 11,bn 54 .eql 53 0] [6,7,10,12,46,47,48,54]
 (.cond (.t 54) (.bJ none [fa 55 0 12,lm 56 4 55,i1 57 (.call 53 [(.t 56),(.c (.str [80,97,114,101,110,116]))]),fa 58 0 12,st 4 58 57] [6,7,10,12,46,47,48])
 .skip))
 (ae [fa 59 0 12,lm 60 4 59,mv 61 7,c2 62 52 60 61,fa 63 0 12,st 4 63 62] [6,7,10,12,46,47,48]
 (.bJ none [fa 64 0 10,i1 65 (.jq (.t 64)),lm 66 6 12,i1 67 (.aN 6 1 qR [(0,6,(.t 66))]),Ec 68 6 80 65 67,fa 69 0 10,st 1 69 68] [6,7,10,46,47,48])))))
 (.bJ none [bn 70 .add 48 1,mv 48 70] [6,7,10,46,47,48])))))))
 (ae [lm 71 5 10,st 5 6 71] [6]
 .ret))))))
theorem CK:aE prog 23 72 [⟨6,false,some (5,true)⟩] sy=true:=by kernel_rfl
theorem Ye{α:Type}[aP α](l:List α)(sp:List AV){n:Nat}(hn:n=aP.w α){j:Int}(h0:0<=j)(h:j<l.length):j.toNat*n+n<=(flat l++sp).length/\views (AB.sub (flat l++sp) (j.toNat*n) n)=aP.cells (ix l j):=by
 subst hn
 have hj:j.toNat<l.length:=by omega
 have hs:=gP l sp (aP.w α) j.toNat 1 rfl (by omega)
 refine⟨?_,?_⟩
 ·rw[List.length_append,ao]
  have:(j.toNat+1)*aP.w α<=l.length*aP.w α:=Nat.mul_le_mul_right _ (by omega)
  rw[Nat.add_mul,Nat.one_mul]at this
  omega
 ·rw[Nat.one_mul]at hs
  rw[hs,List.drop_eq_getElem_cons hj]
  have:ix l j=l[j.toNat]:=by unfold ix;simp[hj]
  rw[this]
  show views (flat [l[j.toNat]])=_
  rw[aH]
  unfold flat
  simp
theorem aaw{α:Type}[aP α](l:List α)(sp:List AV){n:Nat}(hn:n=aP.w α)(x:α){j:Int}(h0:0<=j)(h:j<l.length):setAt (flat l++sp) (j.toNat*n) (aP.cells x)=flat (l.set j.toNat x)++sp:=by
 have hj:j.toNat<l.length:=by omega
 have hs:=gO l [x] sp n j.toNat hn (by simp;omega)
 have e:flat [x]=aP.cells x:=by unfold flat;simp
 rw[e]at hs
 rw[hs,List.set_eq_take_append_cons_drop,if_pos hj]
 simp
theorem Lu(l:List Int)(sp:List AV){j:Int}(h0:0<=j)(h:j<l.length):Hz .i64 (j.toNat*1) (some (.cells (flat l++sp)))/\HA (j.toNat*1) (some (.cells (flat l++sp)))=ix l j:=by
 have hj:j.toNat<l.length:=by omega
 have e:=th l sp (i:=j.toNat) (r:=0) hj (by decide)
 have hw:aP.w Int=1:=rfl
 rw[hw,Nat.add_zero]at e
 have e2:(aP.cells l[j.toNat])[0]? =some (.int .i64 l[j.toNat]):=rfl
 rw[e2]at e
 have ei:ix l j=l[j.toNat]:=by unfold ix;simp[hj]
 refine⟨⟨_,e⟩,?_⟩
 show intOf (flat l++sp)[j.toNat*1]? =_
 rw[e,ei]
 rfl
def QY(L:List aa)(g:aa->Option aa)(q:List aa×Int):Option ((List aa×Int)⊕List aa):=bif decide (q.2<L.length)then aB (0<=q.2/\q.2<q.1.length/\q.2<2^62)<|aJ (g (ix L q.2)) fun y=>some (.inl (q.1.set q.2.toNat y,q.2+1))else some (.inr q.1)
def iq:Nat->aa->List Int->Option aa
 |0,_,_=>none
 |f+1,v,to=>
  bif v.Kind==8 then
   bif decide (v.N<1)||decide (v.N>to.length)then some zV else
   aB (1<=v.N/\v.N<=to.length/\v.N<2^62)<|bif ix to (v.N -1)==0 then some zV else some ⟨8,ix to (v.N -1),⟨[]⟩,[]⟩
  else bif v.Kind==6||v.Kind==7 then
   aB (v.L.length*56<=room)<|aJ (iter (QY v.L (fun x=>iq f x to)) (List.replicate v.L.length zV,0)) fun l=>some ⟨v.Kind,v.N,v.S,l⟩
  else some v
theorem Ds:∀(f:Nat){v:aa}{to:List Int}{s:ab}{b cap:Nat}{sp:List AV}{Q:List AV->ab->Prop},s b=some (.cells (flat to++sp))->ok (iq f v to) (fun r=>Q [vA r] s)->FN prog 52 [vA v,.arr b 0 to.length cap] s Q
 |0,_,_,_,_,_,_,_,_,h=>by obtain⟨r,h,_⟩:=h;cases h
 |f+1,v,to,s,b,cap,sp,Q,hs,h=>by
  have cO:room=140737488355328:=rfl
  rw[iq]at h
  refine FN.lO (FO Hs rfl rfl ?_)
  rw[vY]
  unfold vA at h⊢
  cases h8:(v.Kind==8)with
  |true=>
   rw[h8,cond_true]at h
   cases h1:decide (v.N<1)with
   |true=>
    rw[h1,Bool.true_or,cond_true,aF]at h
    simp -implicitDefEqProofs only[go_sem,seval,h8,h1,Bool.true_eq_false,Bool.false_eq_true,false_implies,true_implies,true_and,and_true,Bool.true_or]
    first|exact⟨s,Sub.refl s,h⟩|trace_state
   |false=>
    cases h2:decide (v.N>(to.length:Int))with
    |true=>
     rw[h1,h2,Bool.or_true,cond_true,aF]at h
     simp -implicitDefEqProofs only[go_sem,seval,h8,h1,h2,Bool.true_eq_false,Bool.false_eq_true,false_implies,true_implies,true_and,and_true,Bool.true_or]
     first|exact⟨s,Sub.refl s,h⟩|trace_state
    |false=>
     rw[h1,h2,Bool.or_false,cond_false,dN]at h
     obtain⟨⟨k1,k2,k3⟩,h⟩:=h
     have w1:bd (v.N -1)=v.N -1:=aI (by omega) (by omega)
     obtain⟨r1,r2⟩:=Ye to sp (n:=1) rfl (j:=v.N -1) (by omega) (by omega)
     have r2:views (AB.sub (flat to++sp) ((v.N -1).toNat*1) 1)=[.int .i64 (ix to (v.N -1))]:=r2
     obtain⟨l1,l2⟩:=Lu to sp (j:=v.N -1) (by omega) (by omega)
     generalize hcs:flat to++sp=cs at*
     have d1:=decide_eq_true r1
     cases h3:(ix to (v.N -1)==0)with
     |true=>
      rw[h3,cond_true,aF]at h
      simp -implicitDefEqProofs only[go_sem,seval,h8,h1,h2,h3,hs,w1,r2,d1,Bool.true_eq_false,Bool.false_eq_true,false_implies,true_implies,true_and,and_true,Bool.true_or]
      rw[l2,h3]
      exact⟨⟨by omega,by omega⟩,l1,fun _=>⟨s,Sub.refl s,h⟩,fun e=>(by cases e)⟩
     |false=>
      rw[h3,cond_false,aF]at h
      simp -implicitDefEqProofs only[go_sem,seval,h8,h1,h2,h3,hs,w1,r2,d1,Bool.true_eq_false,Bool.false_eq_true,false_implies,true_implies,true_and,and_true,Bool.true_or]
      rw[l2,h3]
      exact⟨⟨by omega,by omega⟩,l1,fun e=>(by cases e),fun _=>⟨⟨by omega,by omega⟩,s,Sub.refl s,h⟩⟩
  |false=>
   rw[h8,cond_false]at h
   cases h6:(v.Kind==6)||(v.Kind==7)with
   |false=>
    rw[h6,cond_false,aF]at h
    rw[Bool.or_eq_false_iff]at h6
    simp -implicitDefEqProofs only[go_sem,seval,h8,h6.1,h6.2,Bool.true_eq_false,Bool.false_eq_true,false_implies,true_implies,true_and,and_true,Bool.true_or]
    first|exact⟨s,Sub.refl s,h⟩|trace_state
   |true=>
    rw[h6,cond_true,dN,dS]at h
    obtain⟨hr,h⟩:=h
    obtain⟨ls,hit,h⟩:=h
    have rest:∀(ls:List aa),ok (some (⟨v.Kind,v.N,v.S,ls⟩:aa)) (fun r=>Q [.agg [.int .i64 r.Kind,.int .i64 r.N,.str r.S.b,.sl false 4 r.L.length (flat r.L)]] s)->Q [.agg [.int .i64 v.Kind,.int .i64 v.N,.str v.S.b,.sl false 4 ls.length (flat ls)]] s:=fun ls h=>by rw[aF]at h;exact h
    have h:=rest ls h
    have zl:∀m,(List.replicate m ([.int .i64 0,.int .i64 0,.str [],.sl false 4 0 []]:List AV)).flatten=flat (List.replicate m zV):=fun m=>by rw[gu];rfl
    cases h6':(v.Kind==6)with
    |true=>
     simp -implicitDefEqProofs only[go_sem,seval,h8,h6',Bool.true_eq_false,Bool.false_eq_true,false_implies,true_implies,true_and,and_true,Bool.true_or]
     refine⟨by omega,Int.le_refl _,by omega,fun R hR=>?_⟩
     rw[zl]
     have hbR:b≠R:=fun e=>by subst e;rw[hR]at hs;cases hs
     refine gX (kf:=fun l=>l=ls) (fun(q:List aa×Int) U=>q.1.length=v.L.length/\U=(⟨[(1,.arr b 0 to.length cap),(2,.loc [.int .i64 v.Kind,.int .i64 v.N,.str v.S.b,.sl false 4 v.L.length (flat v.L)]),(4,.loc [.int .i64 0,.int .i64 0,.str [],.sl true 4 0 []]),(5,.arr R 0 v.L.length v.L.length),(50,.sl false 4 v.L.length (flat v.L)),(51,.int .i64 v.L.length),(52,.int .i64 q.2)],[],s.set R (.cells (flat q.1))⟩:St)) ⟨List.length_replicate,rfl⟩ ?_ ⟨ls,hit,rfl⟩
     rintro J q U ⟨hq,rfl⟩ hb
     unfold QY at hb
     cases hlt:decide (q.2<(v.L.length:Int))with
     |false=>
      rw[hlt,cond_false,aF]at hb
      simp only[ns]at hb
      subst hb
      by_cases h0:v.L.length=0
      ·have hq0:q.1=[]:=List.length_eq_zero_iff.1 (by omega)
       simp -implicitDefEqProofs only[go_sem,seval,hlt,Bool.true_eq_false,Bool.false_eq_true,false_implies,true_implies,true_and,and_true]
       refine .inl ⟨h0,h0,rfl,?_⟩
       simp -implicitDefEqProofs only[go_sem,seval]
       rw[hq0]at h⊢
       exact⟨s,(Sub.refl s).set hR,h⟩
      ·simp -implicitDefEqProofs only[go_sem,seval,hlt,Bool.true_eq_false,Bool.false_eq_true,false_implies,true_implies,true_and,and_true]
       have fz:=AM (E:=?_) (d:=?_) (K:=?_) (sz:=4) (s:=s) (r:=some (R,v.L.length,[])) (l:=q.1) ?_ ⟨hR,by omega,by omega,by rw[List.append_nil,ao,hq],rfl⟩ rfl ?_
       ·rw[hq]at fz
        exact fz
       ·show s.set R (.cells (flat q.1))=s.set R (.cells (flat q.1++[]))
        rw[List.append_nil]
       ·simp -implicitDefEqProofs only[go_sem,seval]
        exact⟨s,Sub.refl s,h⟩
     |true=>
      rw[hlt,cond_true,dN,dS]at hb
      obtain⟨⟨q1,q2,q3⟩,y,hy,hb⟩:=hb
      have w1:bd (q.2+1)=q.2+1:=aI (by omega) (by omega)
      obtain⟨r1,_⟩:=Ye q.1 [] (n:=4) rfl (j:=q.2) q1 q2
      rw[List.append_nil]at r1
      have st:=aaw q.1 [] (n:=4) rfl y (j:=q.2) q1 q2
      rw[List.append_nil,List.append_nil,eI]at st
      rw[aF]at hb
      simp only[iA]at hb
      generalize hcs:flat q.1=cs at*
      simp -implicitDefEqProofs only[go_sem,seval,hlt,w1,Bool.true_eq_false,Bool.false_eq_true,false_implies,true_implies,true_and,and_true]
      refine⟨⟨q1,by omega⟩,Ds f (by rw[aj hbR];exact hs) ⟨y,hy,?_⟩⟩
      unfold vA
      simp -implicitDefEqProofs only[go_sem,seval,cq,w1,Bool.true_eq_false,Bool.false_eq_true,false_implies,true_implies,true_and,and_true]
      refine⟨⟨q1,by omega⟩,r1,?_⟩
      rw[st]
      exact hb _ ⟨by rw[List.length_set];exact hq,rfl⟩
    |false=>
     rw[h6',Bool.false_or]at h6
     simp -implicitDefEqProofs only[go_sem,seval,h8,h6,h6',Bool.true_eq_false,Bool.false_eq_true,false_implies,true_implies,true_and,and_true,Bool.true_or]
     refine⟨by omega,Int.le_refl _,by omega,fun R hR=>?_⟩
     rw[zl]
     have hbR:b≠R:=fun e=>by subst e;rw[hR]at hs;cases hs
     refine gX (kf:=fun l=>l=ls) (fun(q:List aa×Int) U=>q.1.length=v.L.length/\U=(⟨[(1,.arr b 0 to.length cap),(2,.loc [.int .i64 v.Kind,.int .i64 v.N,.str v.S.b,.sl false 4 v.L.length (flat v.L)]),(4,.loc [.int .i64 0,.int .i64 0,.str [],.sl true 4 0 []]),(5,.arr R 0 v.L.length v.L.length),(50,.sl false 4 v.L.length (flat v.L)),(51,.int .i64 v.L.length),(52,.int .i64 q.2)],[],s.set R (.cells (flat q.1))⟩:St)) ⟨List.length_replicate,rfl⟩ ?_ ⟨ls,hit,rfl⟩
     rintro J q U ⟨hq,rfl⟩ hb
     unfold QY at hb
     cases hlt:decide (q.2<(v.L.length:Int))with
     |false=>
      rw[hlt,cond_false,aF]at hb
      simp only[ns]at hb
      subst hb
      by_cases h0:v.L.length=0
      ·have hq0:q.1=[]:=List.length_eq_zero_iff.1 (by omega)
       simp -implicitDefEqProofs only[go_sem,seval,hlt,Bool.true_eq_false,Bool.false_eq_true,false_implies,true_implies,true_and,and_true]
       refine .inl ⟨h0,h0,rfl,?_⟩
       simp -implicitDefEqProofs only[go_sem,seval]
       rw[hq0]at h⊢
       exact⟨s,(Sub.refl s).set hR,h⟩
      ·simp -implicitDefEqProofs only[go_sem,seval,hlt,Bool.true_eq_false,Bool.false_eq_true,false_implies,true_implies,true_and,and_true]
       have fz:=AM (E:=?_) (d:=?_) (K:=?_) (sz:=4) (s:=s) (r:=some (R,v.L.length,[])) (l:=q.1) ?_ ⟨hR,by omega,by omega,by rw[List.append_nil,ao,hq],rfl⟩ rfl ?_
       ·rw[hq]at fz
        exact fz
       ·show s.set R (.cells (flat q.1))=s.set R (.cells (flat q.1++[]))
        rw[List.append_nil]
       ·simp -implicitDefEqProofs only[go_sem,seval]
        exact⟨s,Sub.refl s,h⟩
     |true=>
      rw[hlt,cond_true,dN,dS]at hb
      obtain⟨⟨q1,q2,q3⟩,y,hy,hb⟩:=hb
      have w1:bd (q.2+1)=q.2+1:=aI (by omega) (by omega)
      obtain⟨r1,_⟩:=Ye q.1 [] (n:=4) rfl (j:=q.2) q1 q2
      rw[List.append_nil]at r1
      have st:=aaw q.1 [] (n:=4) rfl y (j:=q.2) q1 q2
      rw[List.append_nil,List.append_nil,eI]at st
      rw[aF]at hb
      simp only[iA]at hb
      generalize hcs:flat q.1=cs at*
      simp -implicitDefEqProofs only[go_sem,seval,hlt,w1,Bool.true_eq_false,Bool.false_eq_true,false_implies,true_implies,true_and,and_true]
      refine⟨⟨q1,by omega⟩,Ds f (by rw[aj hbR];exact hs) ⟨y,hy,?_⟩⟩
      unfold vA
      simp -implicitDefEqProofs only[go_sem,seval,cq,w1,Bool.true_eq_false,Bool.false_eq_true,false_implies,true_implies,true_and,and_true]
      refine⟨⟨q1,by omega⟩,r1,?_⟩
      rw[st]
      exact hb _ ⟨by rw[List.length_set];exact hq,rfl⟩
theorem w9{v:aa}{to:List Int}{s:ab}{b cap:Nat}{sp:List AV}{Q:List AV->ab->Prop}(hs:s b=some (.cells (flat to++sp))):ok (iq iu v to) (fun r=>Q [vA r] s)->FN prog 52 [vA v,.arr b 0 to.length cap] s Q:=Ds iu hs
def toB(row:List Int)(q:List Int×Int):Option ((List Int×Int)⊕List Int):=
 bif decide (q.2<row.length)then aB (0<=q.2/\q.2<2^61)<|
  some (.inl (bif decide (ix row q.2>=1)&&decide (ix row q.2<=4096)&&(ix q.1 (ix row q.2 -1)==0)then q.1.set (ix row q.2 -1).toNat (q.2+1)else q.1,q.2+1))
 else some (.inr q.1)
def toM(row:List Int):Option (List Int):=iter (toB row) (List.replicate 4096 0,0)
def aaq(to:List Int)(l:List af)(q:List af×Int):Option ((List af×Int)⊕List af):=
 bif decide (q.2<l.length)then aB (0<=q.2/\q.2<2^61/\(q.1.length+1)*80<=room)<|
  aJ (bif q.2==0 then c5 (ix l q.2).V ⟨[80,97,114,101,110,116]⟩else some (ix l q.2).V) fun v=>aJ (iq iu v to) fun w=>
  some (.inl (q.1++[⟨w,(ix l q.2).Stream,(ix l q.2).Data⟩],q.2+1))
 else some (.inr q.1)
def jf(row:List Int)(l:List af)(given:aa):Option bL:=aJ (toM row) fun to=>aJ (iq iu given to) fun g=>aJ (iter (aaq to l) ([],0)) fun os=>some ⟨os,g⟩
theorem Dv{dP:List Int}{l_1:List af}{cE:aa}{s:ab}{r:bL}(h:jf dP l_1 cE=some r):FE prog 23 [.sl false 1 dP.length (flat dP),.sl false 6 l_1.length (flat l_1),.agg [.int .i64 cE.Kind,.int .i64 cE.N,.str cE.S.b,.sl false 4 cE.L.length (flat cE.L)]] s
 [.agg [.sl false 6 r.ak.length (flat r.ak),.int .i64 r.ag.Kind,.int .i64 r.ag.N,.str r.ag.S.b,.sl false 4 r.ag.L.length (flat r.ag.L)]] s:=by
 have cO:room=140737488355328:=rfl
 have h':ok (jf dP l_1 cE) fun z=>z=r:=⟨r,h,rfl⟩
 unfold jf toM at h'
 simp only[dS,aF]at h'
 obtain⟨to,hto,g,hg,os,hos,rfl⟩:=h'
 refine FN.lO (FO CK rfl rfl ?_)
 rw[sy]
 have e4:(4096:Int).toNat=4096:=rfl
 simp -implicitDefEqProofs only[go_sem,Nat.reduceBEq,Nat.reduceAdd,Nat.reduceMul,Nat.reduceLeDiff,Nat.reduceEqDiff,Nat.reduceBNe,UInt8.reduceToNat,UInt32.reduceToNat,e4]
 refine⟨by decide,by decide,by decide,fun R hR=>?_⟩
 refine gX (kf:=fun t=>t=to) (fun(q:List Int×Int) U=>q.1.length=4096/\U=(⟨[(1,.sl false 6 l_1.length (flat l_1)),(5,.loc [.int .i64 cE.Kind,.int .i64 cE.N,.str cE.S.b,.sl false 4 cE.L.length (flat cE.L)]),(6,.loc [.sl true 6 0 [],.int .i64 0,.int .i64 0,.str [],.sl true 4 0 []]),(7,.arr R 0 4096 4096),(14,.sl false 1 dP.length (flat dP)),(15,.int .i64 dP.length),(16,.int .i64 q.2)],[],s.set R (.cells (flat q.1))⟩:St)) ⟨List.length_replicate,rfl⟩ ?_ ⟨to,hto,rfl⟩
 rintro J q U ⟨hq,rfl⟩ hb
 unfold toB at hb
 cases hlt:decide (q.2<(dP.length:Int))with
 |true=>
  rw[hlt,cond_true,dN,aF]at hb
  simp only[iA]at hb
  obtain⟨⟨q1,q2⟩,hb⟩:=hb
  have w1:bd (q.2+1)=q.2+1:=aI (by omega) (by omega)
  cases c1:decide (ix dP q.2>=1)with
  |false=>
   simp only[c1,Bool.false_and,cond_false]at hb
   simp -implicitDefEqProofs only[go_sem,Nat.reduceBEq,Nat.reduceAdd,Nat.reduceMul,Nat.reduceLeDiff,Nat.reduceEqDiff,Nat.reduceBNe,UInt8.reduceToNat,UInt32.reduceToNat,hlt,w1,c1,Bool.true_eq_false,Bool.false_eq_true,false_implies,true_implies,true_and,and_true,Bool.false_and]
   exact⟨⟨q1,by simpa using hlt⟩,hb _ ⟨hq,rfl⟩⟩
  |true=>
   cases c2:decide (ix dP q.2<=4096)with
   |false=>
    simp only[c1,c2,Bool.and_false,Bool.false_and,cond_false]at hb
    simp -implicitDefEqProofs only[go_sem,Nat.reduceBEq,Nat.reduceAdd,Nat.reduceMul,Nat.reduceLeDiff,Nat.reduceEqDiff,Nat.reduceBNe,UInt8.reduceToNat,UInt32.reduceToNat,hlt,w1,c1,c2,Bool.true_eq_false,Bool.false_eq_true,false_implies,true_implies,true_and,and_true,Bool.false_and]
    first|exact⟨⟨q1,by simpa using hlt⟩,hb _ ⟨hq,rfl⟩⟩|trace_state
   |true=>
    have k1:ix dP q.2>=1:=by simpa using c1
    have k2:ix dP q.2<=4096:=by simpa using c2
    have w2:bd (ix dP q.2 -1)=ix dP q.2 -1:=aI (by omega) (by omega)
    obtain⟨l1,l2⟩:=Lu q.1 [] (j:=ix dP q.2 -1) (by omega) (by omega)
    obtain⟨r1,_⟩:=Ye q.1 [] (n:=1) rfl (j:=ix dP q.2 -1) (by omega) (by omega)
    have st:=aaw q.1 [] (n:=1) rfl (q.2+1) (j:=ix dP q.2 -1) (by omega) (by omega)
    have st:setAt (flat q.1++[]) ((ix dP q.2 -1).toNat*1) [.int .i64 (q.2+1)]=_:=st
    rw[List.append_nil]at l1 l2 r1 st
    rw[List.append_nil]at st
    cases c3:(ix q.1 (ix dP q.2 -1)==0)with
    |false=>
     simp only[c1,c2,c3,Bool.and_false,Bool.false_and,cond_false]at hb
     generalize hcs:flat q.1=cs at*
     simp -implicitDefEqProofs only[go_sem,Nat.reduceBEq,Nat.reduceAdd,Nat.reduceMul,Nat.reduceLeDiff,Nat.reduceEqDiff,Nat.reduceBNe,UInt8.reduceToNat,UInt32.reduceToNat,hlt,w1,w2,c1,c2,l2,c3,Bool.true_eq_false,Bool.false_eq_true,false_implies,true_implies,true_and,and_true,Bool.false_and]
     subst hcs
     exact⟨⟨q1,by simpa using hlt⟩,⟨by omega,by omega⟩,l1,hb _ ⟨hq,rfl⟩⟩
    |true=>
     simp only[c1,c2,c3,Bool.and_true,cond_true]at hb
     generalize hcs:flat q.1=cs at*
     simp -implicitDefEqProofs only[go_sem,Nat.reduceBEq,Nat.reduceAdd,Nat.reduceMul,Nat.reduceLeDiff,Nat.reduceEqDiff,Nat.reduceBNe,UInt8.reduceToNat,UInt32.reduceToNat,hlt,w1,w2,c1,c2,l2,c3,Bool.true_eq_false,Bool.false_eq_true,false_implies,true_implies,true_and,and_true,Bool.false_and]
     rw[st]
     first|exact⟨⟨q1,by simpa using hlt⟩,⟨by omega,by omega⟩,l1,⟨by omega,by omega⟩,r1,hb _ ⟨by rw[List.length_set];exact hq,rfl⟩⟩|trace_state
 |false=>
  rw[hlt,cond_false,aF]at hb
  simp only[ns]at hb
  subst hb
  have hs2:(s.set R (.cells (flat q.1))) R=some (.cells (flat q.1++[])):=by rw[List.append_nil];exact cq
  generalize hst:s.set R (.cells (flat q.1))=st at*
  simp -implicitDefEqProofs only[go_sem,Nat.reduceBEq,Nat.reduceAdd,Nat.reduceMul,Nat.reduceLeDiff,Nat.reduceEqDiff,Nat.reduceBNe,UInt8.reduceToNat,UInt32.reduceToNat,hlt,Bool.true_eq_false,Bool.false_eq_true,false_implies,true_implies,true_and,and_true]
  have t0:=fun{Q}=>w9 (v:=cE) (to:=q.1) (s:=st) (b:=R) (cap:=4096) (Q:=Q) hs2
  rw[hq]at t0
  refine t0 ⟨g,hg,?_⟩
  unfold vA
  simp -implicitDefEqProofs only[go_sem,Nat.reduceBEq,Nat.reduceAdd,Nat.reduceMul,Nat.reduceLeDiff,Nat.reduceEqDiff,Nat.reduceBNe,UInt8.reduceToNat,UInt32.reduceToNat,Bool.true_eq_false,Bool.false_eq_true,false_implies,true_implies,true_and,and_true]
  refine gX (kf:=fun o=>o=os) (fun(p:List af×Int) U=>U=(⟨[(6,.loc [.sl true 6 0 [],.int .i64 0,.int .i64 0,.str [],.sl true 4 0 []]),(7,.arr R 0 4096 4096),(10,.loc [.sl true 6 p.1.length (flat p.1),.int .i64 g.Kind,.int .i64 g.N,.str g.S.b,.sl false 4 g.L.length (flat g.L)]),(46,.sl false 6 l_1.length (flat l_1)),(47,.int .i64 l_1.length),(48,.int .i64 p.2)],[],st⟩:St)) rfl ?_ ⟨os,hos,rfl⟩
  rintro J2 p U rfl hb
  unfold aaq at hb
  cases AS:decide (p.2<(l_1.length:Int))with
  |false=>
   rw[AS,cond_false,aF]at hb
   simp only[ns]at hb
   subst hb
   simp -implicitDefEqProofs only[go_sem,Nat.reduceBEq,Nat.reduceAdd,Nat.reduceMul,Nat.reduceLeDiff,Nat.reduceEqDiff,Nat.reduceBNe,UInt8.reduceToNat,UInt32.reduceToNat,AS,Bool.true_eq_false,Bool.false_eq_true,false_implies,true_implies,true_and,and_true]
   exact⟨s,by rw[<-hst];exact(Sub.refl s).set hR,rfl⟩
  |true=>
   rw[AS,cond_true,dN,dS]at hb
   obtain⟨⟨q1,q2,q3⟩,v,hv,hb⟩:=hb
   rw[dS]at hb
   obtain⟨w,hw,hb⟩:=hb
   rw[aF]at hb
   simp only[iA]at hb
   have w1:bd (p.2+1)=p.2+1:=aI (by omega) (by omega)
   have t1:=fun{Q}{x:aa}=>w9 (v:=x) (to:=q.1) (s:=st) (b:=R) (cap:=4096) (Q:=Q) hs2
   rw[hq]at t1
   unfold vA at t1
   have hp:p.2<(l_1.length:Int):=by simpa using AS
   cases c0:(p.2==0)with
   |true=>
    rw[c0,cond_true]at hv
    simp -implicitDefEqProofs only[go_sem,Nat.reduceBEq,Nat.reduceAdd,Nat.reduceMul,Nat.reduceLeDiff,Nat.reduceEqDiff,Nat.reduceBNe,UInt8.reduceToNat,UInt32.reduceToNat,AS,c0,w1,Bool.true_eq_false,Bool.false_eq_true,false_implies,true_implies,true_and,and_true]
    refine⟨⟨q1,hp⟩,FE.app (rQ hv) ?_⟩
    simp -implicitDefEqProofs only[go_sem,Nat.reduceBEq,Nat.reduceAdd,Nat.reduceMul,Nat.reduceLeDiff,Nat.reduceEqDiff,Nat.reduceBNe,UInt8.reduceToNat,UInt32.reduceToNat,Bool.true_eq_false,Bool.false_eq_true,false_implies,true_implies,true_and,and_true]
    refine t1 ⟨w,hw,?_⟩
    simp -implicitDefEqProofs only[go_sem,Nat.reduceBEq,Nat.reduceAdd,Nat.reduceMul,Nat.reduceLeDiff,Nat.reduceEqDiff,Nat.reduceBNe,UInt8.reduceToNat,UInt32.reduceToNat,w1,Bool.true_eq_false,Bool.false_eq_true,false_implies,true_implies,true_and,and_true]
    refine⟨q3,?_⟩
    have e1:flat (p.1++[(⟨w,(ix l_1 p.2).Stream,(ix l_1 p.2).Data⟩:af)])=flat p.1++[.int .i64 w.Kind,.int .i64 w.N,.str w.S.b,.sl false 4 w.L.length (flat w.L),.bool (ix l_1 p.2).Stream,.str (ix l_1 p.2).Data.b]:=by rw[cg];rfl
    have fin:=hb _ rfl
    simp only[List.length_append,List.length_cons,List.length_nil,Nat.zero_add,e1]at fin
    exact fin
   |false=>
    rw[c0,cond_false]at hv
    injection hv with hv
    rw[<-hv]at hw
    simp -implicitDefEqProofs only[go_sem,Nat.reduceBEq,Nat.reduceAdd,Nat.reduceMul,Nat.reduceLeDiff,Nat.reduceEqDiff,Nat.reduceBNe,UInt8.reduceToNat,UInt32.reduceToNat,AS,c0,w1,Bool.true_eq_false,Bool.false_eq_true,false_implies,true_implies,true_and,and_true]
    refine⟨⟨q1,hp⟩,t1 ⟨w,hw,?_⟩⟩
    simp -implicitDefEqProofs only[go_sem,Nat.reduceBEq,Nat.reduceAdd,Nat.reduceMul,Nat.reduceLeDiff,Nat.reduceEqDiff,Nat.reduceBNe,UInt8.reduceToNat,UInt32.reduceToNat,w1,Bool.true_eq_false,Bool.false_eq_true,false_implies,true_implies,true_and,and_true]
    refine⟨q3,?_⟩
    have e1:flat (p.1++[(⟨w,(ix l_1 p.2).Stream,(ix l_1 p.2).Data⟩:af)])=flat p.1++[.int .i64 w.Kind,.int .i64 w.N,.str w.S.b,.sl false 4 w.L.length (flat w.L),.bool (ix l_1 p.2).Stream,.str (ix l_1 p.2).Data.b]:=by rw[cg];rfl
    have fin:=hb _ rfl
    simp only[List.length_append,List.length_cons,List.length_nil,Nat.zero_add,e1]at fin
    exact fin
end Go.AB
end
