/- A part of the proof: Vt0. -/
import Derived.Test.YtkeagffgdajggaaGreatNu13
import Derived.Test.YtkeagffgdajggaaGreatNu18
import Derived.Test.YtkeagffgdajggaaGreatNu19
import Derived.Test.YtkeagffgdajggaaGreatNu15
import Derived.Test.YtkeagffgdajggaaGreatNu11
set_option linter.unusedSimpArgs false
set_option linter.unusedVariables false
section
set_option maxRecDepth 4000
namespace Go.AB
open Go
open Go.Proofs.Tryz (prog)
attribute[-go_sem] cE da bM cD Nat.add_zero nr bV
structure aL where
 eA:Int
 Path:(List Int)
 an:aa
instance:aK aL:=⟨6,fun x=>[.int .i64 x.eA,sF 1 x.Path,.int .i64 x.an.Kind,.int .i64 x.an.N,.str x.an.S.b,sF 4 x.an.L],(aL.mk 0 [] (aa.mk 0 0 (aw.mk []) [])),by decide,fun _=>rfl,fun _=>rfl⟩
structure aD where
 n_:Int
 v_:aa
 dE:(List Int)
 eG:Int
instance:aK aD:=⟨7,fun x=>[.int .i64 x.n_,.int .i64 x.v_.Kind,.int .i64 x.v_.N,.str x.v_.S.b,sF 4 x.v_.L,sF 1 x.dE,.int .i64 x.eG],(aD.mk 0 (aa.mk 0 0 (aw.mk []) []) [] 0),by decide,fun _=>rfl,fun _=>rfl⟩
def bk(v_0:aa)(gH:aw):Option (aa×Bool):=
 aW (bX v_0 gH) fun r1=>
 if decide (r1<0)then
  some ((aa.mk 0 0 (aw.mk []) ([]:List aa)),false)
 else
  if(bj (r1+1))==(v_0.L.length:Int)then
   some ((aa.mk 0 0 (aw.mk []) ([]:List aa)),true)
  else
   aG (0<=bj (r1+1)/\bj (r1+1)<v_0.L.length)<|
   some (ix v_0.L (bj (r1+1)),true)
def AR:IC:=
 (af [i1 2 (.dc 4 (.t 0)),i1 4 (.aq iA),c6 5 (.bool false)] [1,2,4]
 (af [lm 7 4 2,mv 8 1,c2 9 77 7 8,mv 6 9] [2,4,6]
 (.seq (.block 0 (af [mv 11 6,bn 12 .lss 11 0,mv 10 12] [2,4,6,10]
 (.cond (.t 10) (af [i1 13 (.build iA []),st 4 4 13,c6 5 (.bool false)] [4,5]
 .ret)
 (af [mv 15 6,bn 16 .add 15 1,fa 17 3 2,ld 18 1 17,le 19 0 18,bt 20 .eql 16 19,mv 14 20] [2,4,6,14]
 (.cond (.t 14) (af [i1 21 (.build iA []),st 4 4 21,c6 5 (.bool true)] [4,5]
 .ret)
 .skip)))))
 (af [fa 22 3 2,ld 23 1 22,mv 24 6,bn 25 .add 24 1,ia 26 qT 23 25,lm 27 4 26,st 4 4 27,c6 5 (.bool true)] [4,5]
 .ret))))
theorem Ms:aE prog 37 28 [⟨4,false,some (4,true)⟩,⟨5,true,none⟩] AR=true:=by kernel_rfl
theorem NG{v_0 gH}{s:ab}{Q:List AV->ab->Prop}:ok (bk v_0 gH) (fun r=>Q [oV r.1,.bool r.2] s)->FN prog 37 [oV v_0,.str gH.b] s Q:=by
 intro h
 refine FO Ms rfl rfl ?_
 revert h
 rw[AR,bk]
 repeat'(first
  |with_reducible refine ak (fun _(h:bX v_0 gH=some _)=>nb h) (fun r1=>?_)
  |simp -implicitDefEqProofs only[go_sem,seval])
theorem ft{v_0 gH}{s:ab}{r:aa×Bool}(h:bk v_0 gH=some r):FE prog 37 [oV v_0,.str gH.b] s [oV r.1,.bool r.2] s:=NG ⟨r,h,rfl,rfl⟩
def dZ(o_0:ag)(zr:aw):Option (Bool):=
 aW (bk o_0.V (aw.mk [84,121,112,101])) fun r1=>
 some (((!o_0.Stream)&&(r1.1.Kind==5))&&(r1.1.S.b==zr.b))
def yi:IC:=
 (af [i1 2 (.dc 6 (.t 0)),c6 4 (.bool false)] [1,2]
 (af [fa 8 0 2,lm 9 4 8,i1 10 (.call 37 [(.t 9),(.c (.str [84,121,112,101]))]),iV 7 10,ex 11 7 0,ex 12 7 1,i1 5 (.aq iA),st 4 5 11,mv 6 12] [1,2,5]
 (af [fa 13 4 2,ld 14 1 13,no 15 14,mv 16 15,fg 17 16 true 0 5,lg 18 16 true 1 17,kS 19 16 true .eql 18 5,pf 20 16 19,mv 21 20,fg 22 21 true 2 5,lg 23 21 true 1 22,dh 24 1 21 true,sY 25 21 true .eql 23 24,pf 26 21 25,mv 4 26] [4]
 .ret)))
theorem Jr:aE prog 153 27 [⟨4,true,none⟩] yi=true:=by kernel_rfl
theorem J6{o_0 zr}{s:ab}{Q:List AV->ab->Prop}:ok (dZ o_0 zr) (fun r=>Q [.bool r] s)->FN prog 153 [.agg [.int .i64 o_0.V.Kind,.int .i64 o_0.V.N,.str o_0.V.S.b,sF 4 o_0.V.L,.bool o_0.Stream,.str o_0.Data.b],.str zr.b] s Q:=by
 intro h
 refine FO Jr rfl rfl ?_
 revert h
 rw[yi,dZ]
 repeat'(first
  |with_reducible refine ak (fun _(h:bk o_0.V (aw.mk [84,121,112,101])=some _)=>ft h) (fun r1=>?_)
  |simp -implicitDefEqProofs only[go_sem,seval])
theorem q9{o_0 zr}{s:ab}{r:Bool}(h:dZ o_0 zr=some r):FE prog 153 [.agg [.int .i64 o_0.V.Kind,.int .i64 o_0.V.N,.str o_0.V.S.b,sF 4 o_0.V.L,.bool o_0.Stream,.str o_0.Data.b],.str zr.b] s [.bool r] s:=J6 ⟨r,h,rfl,rfl⟩
def mR(o_0:ag):Option (Int×Bool):=
 aW (bk o_0.V (aw.mk [80,97,103,101,115])) fun r1=>
 aW (dZ o_0 (aw.mk [67,97,116,97,108,111,103])) fun r2=>
 if(!r2)||(r1.1.Kind !=8)then
  some (0,false)
 else
  some (r1.1.N,true)
def AO:IC:=
 (af [i1 1 (.dc 6 (.t 0)),mi 2 0,c6 3 (.bool false)] [1]
 (af [fa 7 0 1,lm 8 4 7,i1 9 (.call 37 [(.t 8),(.c (.str [80,97,103,101,115]))]),iV 6 9,ex 10 6 0,ex 11 6 1,i1 4 (.aq iA),st 4 4 10,mv 5 11] [1,4]
 (.seq (af [lm 12 6 1,i1 13 (.call 153 [(.t 12),(.c (.str [67,97,116,97,108,111,103]))]),no 14 13,mv 15 14,fg 16 15 false 0 4,lg 17 15 false 1 16,kS 18 15 false .neq 17 8,po 19 15 18] [4,19]
 (.cond (.t 19) (af [mi 2 0,c6 3 (.bool false)] [2,3]
 .ret)
 .skip))
 (af [fa 20 1 4,ld 21 1 20,mv 2 21,c6 3 (.bool true)] [2,3]
 .ret))))
theorem Mp:aE prog 150 22 [⟨2,true,none⟩,⟨3,true,none⟩] AO=true:=by kernel_rfl
theorem Ny{o_0}{s:ab}{Q:List AV->ab->Prop}:ok (mR o_0) (fun r=>Q [.int .i64 r.1,.bool r.2] s)->FN prog 150 [.agg [.int .i64 o_0.V.Kind,.int .i64 o_0.V.N,.str o_0.V.S.b,sF 4 o_0.V.L,.bool o_0.Stream,.str o_0.Data.b]] s Q:=by
 intro h
 refine FO Mp rfl rfl ?_
 revert h
 rw[AO,mR]
 repeat'(first
  |(with_reducible first|refine ak (fun _(h:bk o_0.V (aw.mk [80,97,103,101,115])=some _)=>ft h) (fun r1=>?_)|refine ak (fun _(h:dZ o_0 (aw.mk [67,97,116,97,108,111,103])=some _)=>q9 h) (fun r2=>?_))
  |simp -implicitDefEqProofs only[go_sem,seval])
theorem Nx{o_0}{s:ab}{r:Int×Bool}(h:mR o_0=some r):FE prog 150 [.agg [.int .i64 o_0.V.Kind,.int .i64 o_0.V.N,.str o_0.V.S.b,sF 4 o_0.V.L,.bool o_0.Stream,.str o_0.Data.b]] s [.int .i64 r.1,.bool r.2] s:=Ny ⟨r,h,rfl,rfl⟩
def eT(n_0:Int)(o_1:ag):Option (aD×Bool):=
 aW (bk o_1.V (aw.mk [75,105,100,115])) fun r1=>
 aW (bk o_1.V (aw.mk [67,111,117,110,116])) fun r2=>
 aW (dZ o_1 (aw.mk [80,97,103,101,115])) fun r3=>
 if(((!r3)||(r1.1.Kind !=6))||((r1.1.L.length:Int)==0))||(r2.1.Kind !=2)then
  some ((aD.mk n_0 o_1.V ([]:List Int) 0),false)
 else
  yp (
   jG (
    iter (fun((x9,t10):aD×Int)=>
     if decide (t10<(r1.1.L.length:Int))then
      aG (0<=t10/\t10<r1.1.L.length)<|
      if((ix r1.1.L t10).Kind)!=8 then
       some (.inr (.inr (x9,false)))
      else
       aG ((x9.dE.length+[(ix r1.1.L t10).N].length)*8<=room)<|
       some (.inl ((aD.mk x9.n_ x9.v_ (x9.dE++[(ix r1.1.L t10).N]) x9.eG),bj (t10+1)))
     else
      some (.inr (.inl x9))) ((aD.mk n_0 o_1.V ([]:List Int) 0),0)) (fun(x12:aD)=>
    some (.inl x12))
   (fun((t14,t15):aD×Bool)=>some (.inr (t14,t15)))) (fun(x5:aD)=>
   some ((aD.mk x5.n_ x5.v_ x5.dE r2.1.N),(decide (r2.1.N>=(x5.dE.length:Int)))&&(decide (r2.1.N<=2048))))
  (fun((t7,t8):aD×Bool)=>some (t7,t8))
def vx:IC:=
 (af [i1 3 (.dc 6 (.t 1)),i1 4 (.aq [.int .i64 0,.int .i64 0,.int .i64 0,.str [],.sl true 4 0 [],.sl true 1 0 [],.int .i64 0]),c6 5 (.bool false)] [0,3,4]
 (af [mv 13 0,fa 14 0 3,lm 15 4 14,i1 16 (.build [.int .i64 0,.int .i64 0,.int .i64 0,.str [],.sl true 4 0 [],.arr 0 0 0 0,.int .i64 0] [(0,1,(.t 13)),(1,4,(.t 15))]),i1 6 (.aq [.int .i64 0,.int .i64 0,.int .i64 0,.str [],.sl true 4 0 [],.sl true 1 0 [],.int .i64 0]),i0 (.qX 1 7 (.t 6) (.t 16))] [3,4,6]
 (af [fa 18 0 3,lm 19 4 18,i1 20 (.call 37 [(.t 19),(.c (.str [75,105,100,115]))]),iV 17 20,ex 21 17 0,ex 22 17 1,i1 7 (.aq iA),st 4 7 21,mv 8 22] [3,4,6,7]
 (af [fa 24 0 3,lm 25 4 24,i1 26 (.call 37 [(.t 25),(.c (.str [67,111,117,110,116]))]),iV 23 26,ex 27 23 0,ex 28 23 1,i1 9 (.aq iA),st 4 9 27,mv 10 28] [3,4,6,7,9]
 (.seq (af [lm 29 6 3,i1 30 (.call 153 [(.t 29),(.c (.str [80,97,103,101,115]))]),no 31 30,mv 32 31,fg 33 32 false 0 7,lg 34 32 false 1 33,kS 35 32 false .neq 34 6,po 36 32 35,mv 37 36,fg 38 37 false 3 7,lg 39 37 false 1 38,dq 40 37 false (.len 0 (.t 39)),kS 41 37 false .eql 40 0,po 42 37 41,mv 43 42,fg 44 43 false 0 9,lg 45 43 false 1 44,kS 46 43 false .neq 45 2,po 47 43 46] [4,6,7,9,47]
 (.cond (.t 47) (af [lm 48 7 6,st 7 4 48,c6 5 (.bool false)] [4,5]
 .ret)
 .skip))
 (.join [(4,false),(6,false),(9,false)] (af [fa 49 3 7,ld 50 1 49,le 51 0 50,mi 52 0] [4,6,9,50,51,52]
 (.block 0 (.loop [(4,false),(6,false),(9,false),(50,true),(51,false),(52,false)] (af [bt 53 .lss 52 51] [4,6,9,50,51,52,53]
 (.seq (.cond (.t 53) .skip
 (.exit 0))
 (.seq (.block 1 (af [ia 54 qT 50 52,lm 55 4 54,i1 12 (.aq iA),st 4 12 55] [4,6,9,12,50,51,52]
 (.seq (af [fa 56 0 12,ld 57 1 56,bn 58 .neq 57 8] [4,6,9,12,50,51,52,58]
 (.cond (.t 58) (af [lm 59 7 6,st 7 4 59,c6 5 (.bool false)] [4,5]
 .ret)
 .skip))
 (.bN none [fa 60 5 6,i1 61 (.jh (.t 60)),fa 62 1 12,ld 63 1 62,i1 64 (.bq 1 1 jV [(0,1,(.t 63))]),UF 65 1 8 61 64,fa 66 5 6,st 1 66 65] [4,6,9,50,51,52]))))
 (.bN none [bn 67 .add 52 1,mv 52 67] [4,6,9,50,51,52])))))))
 (af [fa 68 1 9,ld 69 1 68,fa 70 6 6,st 1 70 69] [4,6]
 (.seq (.wq [4] 14 [lm 71 7 6,fa 72 6 6,ld 73 1 72,fa 74 5 6,ld 75 1 74,le 76 0 75,bt 77 .geq 73 76,mv 78 77,fg 79 78 true 6 6,lg 80 78 true 1 79,kS 81 78 true .leq 80 2048,pf 82 78 81,st 7 4 71,mv 5 82] [4,5])
 .ret))))))))
theorem GK:aE prog 98 83 [⟨4,false,some (7,true)⟩,⟨5,true,none⟩] vx=true:=by kernel_rfl
theorem Ie{n_0 o_1}{s:ab}{Q:List AV->ab->Prop}:ok (eT n_0 o_1) (fun r=>Q [.agg [.int .i64 r.1.n_,.int .i64 r.1.v_.Kind,.int .i64 r.1.v_.N,.str r.1.v_.S.b,sF 4 r.1.v_.L,sF 1 r.1.dE,.int .i64 r.1.eG],.bool r.2] s)->FN prog 98 [.int .i64 n_0,.agg [.int .i64 o_1.V.Kind,.int .i64 o_1.V.N,.str o_1.V.S.b,sF 4 o_1.V.L,.bool o_1.Stream,.str o_1.Data.b]] s Q:=by
 intro h
 refine FO GK rfl rfl ?_
 revert h
 rw[vx,eT]
 repeat'(first
  |(with_reducible first|exact cW|refine bK ?_ ?_|refine de ?_|refine ak (fun _(h:bk o_1.V (aw.mk [75,105,100,115])=some _)=>ft h) (fun r1=>?_)|refine ak (fun _(h:bk o_1.V (aw.mk [67,111,117,110,116])=some _)=>ft h) (fun r2=>?_)|refine ak (fun _(h:dZ o_1 (aw.mk [80,97,103,101,115])=some _)=>q9 h) (fun r3=>?_))
  |((with_reducible refine bF (fun((x9,t10):aD×Int)=>⟨[(4,.loc [.int .i64 0,.int .i64 0,.int .i64 0,.str (aw.mk []).b,.sl true 4 0 [],.sl true 1 0 [],.int .i64 0]),(6,.loc [.int .i64 x9.n_,.int .i64 x9.v_.Kind,.int .i64 x9.v_.N,.str x9.v_.S.b,sF 4 x9.v_.L,sT 1 x9.dE,.int .i64 x9.eG]),(9,.loc [.int .i64 r2.1.Kind,.int .i64 r2.1.N,.str r2.1.S.b,sF 4 r2.1.L]),(50,sF 4 r1.1.L),(51,.int .i64 (r1.1.L.length:Int)),(52,.int .i64 t10)],[],s⟩) ?_ ?_);(first|exact rfl|simp -implicitDefEqProofs only[go_sem,seval]);rintro J ⟨x9,t10⟩)
  |((with_reducible refine fh (fun(x5:aD)=>⟨[(4,.loc [.int .i64 0,.int .i64 0,.int .i64 0,.str (aw.mk []).b,.sl true 4 0 [],.sl true 1 0 [],.int .i64 0]),(6,.loc [.int .i64 x5.n_,.int .i64 x5.v_.Kind,.int .i64 x5.v_.N,.str x5.v_.S.b,sF 4 x5.v_.L,sT 1 x5.dE,.int .i64 x5.eG]),(9,.loc [.int .i64 r2.1.Kind,.int .i64 r2.1.N,.str r2.1.S.b,sF 4 r2.1.L])],[],s⟩) (fun J=>?_) ?_);rotate_left;rintro x5)
  |simp -implicitDefEqProofs only[go_sem,seval])
theorem wG{n_0 o_1}{s:ab}{r:aD×Bool}(h:eT n_0 o_1=some r):FE prog 98 [.int .i64 n_0,.agg [.int .i64 o_1.V.Kind,.int .i64 o_1.V.N,.str o_1.V.S.b,sF 4 o_1.V.L,.bool o_1.Stream,.str o_1.Data.b]] s [.agg [.int .i64 r.1.n_,.int .i64 r.1.v_.Kind,.int .i64 r.1.v_.N,.str r.1.v_.S.b,sF 4 r.1.v_.L,sF 1 r.1.dE,.int .i64 r.1.eG],.bool r.2] s:=Ie ⟨r,h,rfl,rfl⟩
def jr(f_0:nd)(n_1:Int):Option (aD×Int×Int):=
 aW (fA f_0 n_1) fun r1=>
 if r1.2.2 !=0 then
  some ((aD.mk 0 (aa.mk 0 0 (aw.mk []) ([]:List aa)) ([]:List Int) 0),r1.2.1,r1.2.2)
 else
  aW (eT n_1 r1.1) fun r2=>
  if !r2.2 then
   some ((aD.mk 0 (aa.mk 0 0 (aw.mk []) ([]:List aa)) ([]:List Int) 0),0,24)
  else
   some (r2.1,0,0)
def Dl:IC:=
 (af [i1 4 (.aq [.int .i64 0,.int .i64 0,.int .i64 0,.str [],.sl true 4 0 [],.sl true 1 0 [],.int .i64 0]),mi 5 0,mi 6 0] [0,1,4]
 (af [mv 13 0,mv 14 1,c2 15 95 13 14,iV 12 15,ex 16 12 0,ex 17 12 1,ex 18 12 2,i1 7 (.aq zz),st 6 7 16,mv 8 17,mv 9 18] [1,4,7,8,9]
 (.seq (af [mv 19 9,bn 20 .neq 19 0] [1,4,7,8,9,20]
 (.cond (.t 20) (af [i1 21 (.build [.int .i64 0,.int .i64 0,.int .i64 0,.str [],.sl true 4 0 [],.sl true 1 0 [],.int .i64 0] []),mv 22 8,mv 23 9,st 7 4 21,mv 5 22,mv 6 23] [4,5,6]
 .ret)
 .skip))
 (af [mv 25 1,lm 26 6 7,c2 27 98 25 26,iV 24 27,ex 28 24 0,ex 29 24 1,i1 10 (.aq [.int .i64 0,.int .i64 0,.int .i64 0,.str [],.sl true 4 0 [],.sl true 1 0 [],.int .i64 0]),st 7 10 28,mv 11 29] [4,10,11]
 (.seq (af [mv 30 11,no 31 30] [4,10,31]
 (.cond (.t 31) (af [i1 32 (.build [.int .i64 0,.int .i64 0,.int .i64 0,.str [],.sl true 4 0 [],.sl true 1 0 [],.int .i64 0] []),st 7 4 32,mi 5 0,mi 6 24] [4,5,6]
 .ret)
 .skip))
 (af [lm 33 7 10,st 7 4 33,mi 5 0,mi 6 0] [4,5,6]
 .ret))))))
theorem O5:aE prog 99 34 [⟨4,false,some (7,true)⟩,⟨5,true,none⟩,⟨6,true,none⟩] Dl=true:=by kernel_rfl
theorem Qh{f_0 n_1}{s:ab}{Q:List AV->ab->Prop}(va0:dj s f_0):ok (jr f_0 n_1) (fun r=>Q [.agg [.int .i64 r.1.n_,.int .i64 r.1.v_.Kind,.int .i64 r.1.v_.N,.str r.1.v_.S.b,sF 4 r.1.v_.L,sF 1 r.1.dE,.int .i64 r.1.eG],.int .i64 r.2.1,.int .i64 r.2.2] s)->FN prog 99 [.ref f_0.B 0,.int .i64 n_1] s Q:=by
 intro h
 refine FO O5 rfl rfl ?_
 revert h
 rw[Dl,jr]
 repeat'(first
  |(with_reducible first|exact cW|refine bK ?_ ?_|refine de ?_|refine ak (fun _(h:fA f_0 n_1=some _)=>ox (dj.mono (by assumption) (by repeat'(first|exact Sub.refl _|refine Sub.set ?_ ?_|assumption|(simp[ab.set, *];done)))) h) (fun r1=>?_)|refine ak (fun _(h:eT n_1 r1.1=some _)=>wG h) (fun r2=>?_))
  |simp -implicitDefEqProofs only[go_sem,seval])
theorem DB{f_0 n_1}{s:ab}{r:aD×Int×Int}(va0:dj s f_0)(h:jr f_0 n_1=some r):FE prog 99 [.ref f_0.B 0,.int .i64 n_1] s [.agg [.int .i64 r.1.n_,.int .i64 r.1.v_.Kind,.int .i64 r.1.v_.N,.str r.1.v_.S.b,sF 4 r.1.v_.L,sF 1 r.1.dE,.int .i64 r.1.eG],.int .i64 r.2.1,.int .i64 r.2.2] s:=Qh va0 ⟨r,h,rfl,rfl⟩
def nV(f_0:nd):Option (aD×Int×Int):=
 aW (sq f_0) fun r1=>
 aW (fA f_0 r1) fun r2=>
 if r2.2.2 !=0 then
  some ((aD.mk 0 (aa.mk 0 0 (aw.mk []) ([]:List aa)) ([]:List Int) 0),r2.2.1,r2.2.2)
 else
  aW (mR r2.1) fun r3=>
  if !r3.2 then
   some ((aD.mk 0 (aa.mk 0 0 (aw.mk []) ([]:List aa)) ([]:List Int) 0),0,23)
  else
   aW (jr f_0 r3.1) fun r4=>
   some (r4.1,r4.2.1,r4.2.2)
def Dm:IC:=
 (af [i1 2 (.aq [.int .i64 0,.int .i64 0,.int .i64 0,.str [],.sl true 4 0 [],.sl true 1 0 [],.int .i64 0]),mi 3 0,mi 4 0] [0,2]
 (af [mv 11 0,mv 12 0,c1 13 149 12,c2 14 95 11 13,iV 10 14,ex 15 10 0,ex 16 10 1,ex 17 10 2,i1 5 (.aq zz),st 6 5 15,mv 6 16,mv 7 17] [0,2,5,6,7]
 (.seq (af [mv 18 7,bn 19 .neq 18 0] [0,2,5,6,7,19]
 (.cond (.t 19) (af [i1 20 (.build [.int .i64 0,.int .i64 0,.int .i64 0,.str [],.sl true 4 0 [],.sl true 1 0 [],.int .i64 0] []),mv 21 6,mv 22 7,st 7 2 20,mv 3 21,mv 4 22] [2,3,4]
 .ret)
 .skip))
 (af [lm 24 6 5,c1 25 150 24,iV 23 25,ex 26 23 0,ex 27 23 1,mv 8 26,mv 9 27] [0,2,8,9]
 (.seq (af [mv 28 9,no 29 28] [0,2,8,29]
 (.cond (.t 29) (af [i1 30 (.build [.int .i64 0,.int .i64 0,.int .i64 0,.str [],.sl true 4 0 [],.sl true 1 0 [],.int .i64 0] []),st 7 2 30,mi 3 0,mi 4 23] [2,3,4]
 .ret)
 .skip))
 (af [mv 31 0,mv 32 8,c2 33 99 31 32,ex 34 33 0,ex 35 33 1,ex 36 33 2,st 7 2 34,mv 3 35,mv 4 36] [2,3,4]
 .ret))))))
theorem O6:aE prog 93 37 [⟨2,false,some (7,true)⟩,⟨3,true,none⟩,⟨4,true,none⟩] Dm=true:=by kernel_rfl
theorem Qj{f_0}{s:ab}{Q:List AV->ab->Prop}(va0:dj s f_0):ok (nV f_0) (fun r=>Q [.agg [.int .i64 r.1.n_,.int .i64 r.1.v_.Kind,.int .i64 r.1.v_.N,.str r.1.v_.S.b,sF 4 r.1.v_.L,sF 1 r.1.dE,.int .i64 r.1.eG],.int .i64 r.2.1,.int .i64 r.2.2] s)->FN prog 93 [.ref f_0.B 0] s Q:=by
 intro h
 refine FO O6 rfl rfl ?_
 revert h
 rw[Dm,nV]
 repeat'(first
  |(with_reducible first|exact cW|refine bK ?_ ?_|refine de ?_|refine ak (fun _(h:sq f_0=some _)=>IG (dj.mono (by assumption) (by repeat'(first|exact Sub.refl _|refine Sub.set ?_ ?_|assumption|(simp[ab.set, *];done)))) h) (fun r1=>?_)|refine ak (fun _(h:fA f_0 r1=some _)=>ox (dj.mono (by assumption) (by repeat'(first|exact Sub.refl _|refine Sub.set ?_ ?_|assumption|(simp[ab.set, *];done)))) h) (fun r2=>?_)|refine ak (fun _(h:mR r2.1=some _)=>Nx h) (fun r3=>?_)|refine ak (fun _(h:jr f_0 r3.1=some _)=>DB (dj.mono (by assumption) (by repeat'(first|exact Sub.refl _|refine Sub.set ?_ ?_|assumption|(simp[ab.set, *];done)))) h) (fun r4=>?_))
  |simp -implicitDefEqProofs only[go_sem,seval])
theorem Qi{f_0}{s:ab}{r:aD×Int×Int}(va0:dj s f_0)(h:nV f_0=some r):FE prog 93 [.ref f_0.B 0] s [.agg [.int .i64 r.1.n_,.int .i64 r.1.v_.Kind,.int .i64 r.1.v_.N,.str r.1.v_.S.b,sF 4 r.1.v_.L,sF 1 r.1.dE,.int .i64 r.1.eG],.int .i64 r.2.1,.int .i64 r.2.2] s:=Qj va0 ⟨r,h,rfl,rfl⟩
def cZ(l_0:(List aa)):Option (aa):=
 jn (
  iter (fun((v3,i4):aa×Int)=>
   if decide (bj (i4+1)<(l_0.length:Int))then
    aG (0<=i4/\i4<l_0.length)<|
    aG (0<=bj (i4+1)/\bj (i4+1)<l_0.length)<|
    aW (eJ v3 ((ix l_0 i4).S) (ix l_0 (bj (i4+1)))) fun r7=>
    some (.inl (r7,bj (i4+2)))
   else
    some (.inr v3)) ((aa.mk 7 0 (aw.mk []) ([]:List aa)),0)) fun(v2:aa)=>
 some v2
def tQ:IC:=
 (af [i1 2 (.aq iA)] [0,2]
 (af [i1 5 (.build iA [(0,1,(.c (.int .i64 7)))]),i1 3 (.aq iA),st 4 3 5] [0,2,3]
 (.join [(2,false),(3,false)] (af [mi 4 0] [0,2,3,4]
 (.block 0 (.loop [(0,true),(2,false),(3,false),(4,false)] (.seq (af [mv 6 4,bn 7 .add 6 1,mv 8 0,le 9 0 8,bt 10 .lss 7 9] [0,2,3,4,10]
 (.cond (.t 10) .skip
 (.exit 0)))
 (.seq (.block 1 (.bN (some 12) [lm 13 4 3,mv 14 0,mv 15 4,ia 16 qT 14 15,fa 17 2 16,ld 18 1 17,mv 19 0,mv 20 4,bn 21 .add 20 1,ia 22 qT 19 21,lm 23 4 22,c3 24 140 13 18 23,st 4 3 24] [0,2,3,4]))
 (.bN none [mv 11 4,bn 12 .add 11 2,mv 4 12] [0,2,3,4]))))))
 (af [lm 25 4 3,st 4 2 25] [2]
 .ret))))
theorem D3:aE prog 86 26 [⟨2,false,some (4,true)⟩] tQ=true:=by kernel_rfl
theorem En{l_0}{s:ab}{Q:List AV->ab->Prop}:ok (cZ l_0) (fun r=>Q [oV r] s)->FN prog 86 [sF 4 l_0] s Q:=by
 intro h
 refine FO D3 rfl rfl ?_
 revert h
 rw[tQ,cZ]
 repeat'(first
  |(with_reducible first|exact cW|refine bK ?_ ?_|refine de ?_|refine b6 (fun _(h:eJ v3 ((ix l_0 i4).S) (ix l_0 (bj (i4+1)))=some _)=>Bt h) (fun _=>rfl) (fun r7=>?_))
  |((with_reducible refine bF (fun((v3,i4):aa×Int)=>⟨[(0,sF 4 l_0),(2,.loc [.int .i64 0,.int .i64 0,.str (aw.mk []).b,.sl true 4 0 []]),(3,.loc [.int .i64 v3.Kind,.int .i64 v3.N,.str v3.S.b,sF 4 v3.L]),(4,.int .i64 i4)],[],s⟩) ?_ ?_);(first|exact rfl|simp -implicitDefEqProofs only[go_sem,seval]);rintro J ⟨v3,i4⟩)
  |((with_reducible refine dA (fun(v2:aa)=>⟨[(2,.loc [.int .i64 0,.int .i64 0,.str (aw.mk []).b,.sl true 4 0 []]),(3,.loc [.int .i64 v2.Kind,.int .i64 v2.N,.str v2.S.b,sF 4 v2.L])],[],s⟩) (fun J=>?_) ?_);rotate_left;rintro v2)
  |simp -implicitDefEqProofs only[go_sem,seval])
theorem j9{l_0}{s:ab}{r:aa}(h:cZ l_0=some r):FE prog 86 [sF 4 l_0] s [oV r] s:=En ⟨r,h,rfl,rfl⟩
def dY:Option ((List aw)):=some [(aw.mk [82,101,115,111,117,114,99,101,115]),(aw.mk [77,101,100,105,97,66,111,120]),(aw.mk [67,114,111,112,66,111,120]),(aw.mk [82,111,116,97,116,101])]
def qk:IC:=
 (af [i1 0 (.jL true (.c (.sl true 1 0 [])))] []
 (af [i1 1 (.bq 1 4 [.str [],.str [],.str [],.str []] [(0,1,(.c (.str [82,101,115,111,117,114,99,101,115]))),(1,1,(.c (.str [77,101,100,105,97,66,111,120]))),(2,1,(.c (.str [67,114,111,112,66,111,120]))),(3,1,(.c (.str [82,111,116,97,116,101])))]),mt 0 1] [0]
 .ret))
theorem A1:aE prog 151 2 [⟨0,true,none⟩] qk=true:=by kernel_rfl
theorem Bq{s:ab}{Q:List AV->ab->Prop}:ok (dY) (fun r=>Q [sT 1 r] s)->FN prog 151 [] s Q:=by
 intro h
 refine FO A1 rfl rfl ?_
 revert h
 rw[qk,dY]
 repeat'(first
  |simp -implicitDefEqProofs only[go_sem,seval])
theorem qz{s:ab}{r:(List aw)}(h:dY=some r):FE prog 151 [] s [sT 1 r] s:=Bq ⟨r,h,rfl,rfl⟩
def kY(sG:aa)(v_1:aa):Option (aa):=
 jn (
  aW (dY) fun r3=>
  iter (fun((qI,t5):aa×Int)=>
   if decide (t5<(r3.length:Int))then
    jn (
     aG (0<=t5/\t5<r3.length)<|
     aW (bk v_1 (ix r3 t5)) fun r14=>
     if r14.2 then
      aW (eJ qI (ix r3 t5) r14.1) fun r15=>
      some r15
     else
      some qI) fun(yX:aa)=>
    some (.inl (yX,bj (t5+1)))
   else
    some (.inr qI)) (sG,0)) fun(yV:aa)=>
 some yV
def AP:IC:=
 (af [i1 2 (.dc 4 (.t 0)),i1 3 (.dc 4 (.t 1)),i1 4 (.aq iA)] [2,3,4]
 (.join [(2,false),(4,false)] (af [i1 9 (.call 151 []),le 10 0 9,mi 11 0] [2,3,4,9,10,11]
 (.block 0 (.loop [(2,false),(3,false),(4,false),(9,false),(10,false),(11,false)] (af [bt 12 .lss 11 10] [2,3,4,9,10,11,12]
 (.seq (.cond (.t 12) .skip
 (.exit 0))
 (.join [(2,false),(3,false),(4,false),(9,false),(10,false),(11,false)] (.block 1 (af [ia 13 [.str []] 9 11,ld 14 1 13,mv 6 14] [2,3,4,6,9,10,11]
 (af [lm 16 4 3,mv 17 6,c2 18 37 16 17,iV 15 18,ex 19 15 0,ex 20 15 1,i1 7 (.aq iA),st 4 7 19,mv 8 20] [2,3,4,6,7,8,9,10,11]
 (af [mv 21 8] [2,3,4,6,7,9,10,11,21]
 (.cond (.t 21) (.bN none [lm 22 4 2,mv 23 6,lm 24 4 7,c3 25 140 22 23 24,st 4 2 25] [2,3,4,9,10,11])
 .skip)))))
 (.bN none [bn 26 .add 11 1,mv 11 26] [2,3,4,9,10,11])))))))
 (af [lm 27 4 2,st 4 4 27] [4]
 .ret)))
theorem Mq:aE prog 94 28 [⟨4,false,some (4,true)⟩] AP=true:=by kernel_rfl
theorem NA{sG v_1}{s:ab}{Q:List AV->ab->Prop}:ok (kY sG v_1) (fun r=>Q [oV r] s)->FN prog 94 [oV sG,oV v_1] s Q:=by
 intro h
 refine FO Mq rfl rfl ?_
 revert h
 rw[AP,kY]
 repeat'(first
  |(with_reducible first|exact cW|refine bK ?_ ?_|refine de ?_|refine ak (fun _(h:dY=some _)=>qz h) (fun r3=>?_)|refine ak (fun _(h:bk v_1 (ix r3 t5)=some _)=>ft h) (fun r14=>?_)|refine ak (fun _(h:eJ qI (ix r3 t5) r14.1=some _)=>Bt h) (fun r15=>?_))
  |((with_reducible refine dA (live:=[(2,false),(3,false),(4,false),(9,false),(10,false),(11,false)]) (fun(yX:aa)=>⟨[(2,.loc [.int .i64 yX.Kind,.int .i64 yX.N,.str yX.S.b,sF 4 yX.L]),(3,.loc [.int .i64 v_1.Kind,.int .i64 v_1.N,.str v_1.S.b,sF 4 v_1.L]),(4,.loc [.int .i64 0,.int .i64 0,.str (aw.mk []).b,.sl true 4 0 []]),(9,sT 1 r3),(10,.int .i64 (r3.length:Int)),(11,.int .i64 t5)],[],s⟩) (fun J=>?_) ?_);rotate_left;rintro yX)
  |((with_reducible refine bF (fun((qI,t5):aa×Int)=>⟨[(2,.loc [.int .i64 qI.Kind,.int .i64 qI.N,.str qI.S.b,sF 4 qI.L]),(3,.loc [.int .i64 v_1.Kind,.int .i64 v_1.N,.str v_1.S.b,sF 4 v_1.L]),(4,.loc [.int .i64 0,.int .i64 0,.str (aw.mk []).b,.sl true 4 0 []]),(9,sT 1 r3),(10,.int .i64 (r3.length:Int)),(11,.int .i64 t5)],[],s⟩) ?_ ?_);(first|exact rfl|simp -implicitDefEqProofs only[go_sem,seval]);rintro J ⟨qI,t5⟩)
  |((with_reducible refine dA (live:=[(2,false),(4,false)]) (fun(yV:aa)=>⟨[(2,.loc [.int .i64 yV.Kind,.int .i64 yV.N,.str yV.S.b,sF 4 yV.L]),(4,.loc [.int .i64 0,.int .i64 0,.str (aw.mk []).b,.sl true 4 0 []])],[],s⟩) (fun J=>?_) ?_);rotate_left;rintro yV)
  |simp -implicitDefEqProofs only[go_sem,seval])
theorem Nz{sG v_1}{s:ab}{r:aa}(h:kY sG v_1=some r):FE prog 94 [oV sG,oV v_1] s [oV r] s:=NA ⟨r,h,rfl,rfl⟩
def kX(o_0:ag):Option (Bool):=
 aW (dZ o_0 (aw.mk [80,97,103,101])) fun r1=>
 some r1
def AN:IC:=
 (af [i1 1 (.dc 6 (.t 0)),c6 2 (.bool false)] [1]
 (af [lm 3 6 1,i1 4 (.call 153 [(.t 3),(.c (.str [80,97,103,101]))]),mv 2 4] [2]
 .ret))
theorem Mo:aE prog 96 5 [⟨2,true,none⟩] AN=true:=by kernel_rfl
theorem Nw{o_0}{s:ab}{Q:List AV->ab->Prop}:ok (kX o_0) (fun r=>Q [.bool r] s)->FN prog 96 [.agg [.int .i64 o_0.V.Kind,.int .i64 o_0.V.N,.str o_0.V.S.b,sF 4 o_0.V.L,.bool o_0.Stream,.str o_0.Data.b]] s Q:=by
 intro h
 refine FO Mo rfl rfl ?_
 revert h
 rw[AN,kX]
 repeat'(first
  |with_reducible refine ak (fun _(h:dZ o_0 (aw.mk [80,97,103,101])=some _)=>q9 h) (fun r1=>?_)
  |simp -implicitDefEqProofs only[go_sem,seval])
theorem Nv{o_0}{s:ab}{r:Bool}(h:kX o_0=some r):FE prog 96 [.agg [.int .i64 o_0.V.Kind,.int .i64 o_0.V.N,.str o_0.V.S.b,sF 4 o_0.V.L,.bool o_0.Stream,.str o_0.Data.b]] s [.bool r] s:=Nw ⟨r,h,rfl,rfl⟩
def kZ(n_0:Int)(jN:aa)(qS:(List Int))(given_3:aa):Option (aL):=
 jn (
  aW (dY) fun r5=>
  iter (fun((qJ,t7):aa×Int)=>
   if decide (t7<(r5.length:Int))then
    jn (
     aG (0<=t7/\t7<r5.length)<|
     aW (bk jN (ix r5 t7)) fun r20=>
     if r20.2 then
      aW (bS qJ (ix r5 t7)) fun r21=>
      some r21
     else
      some qJ) fun(sD:aa)=>
    some (.inl (sD,bj (t7+1)))
   else
    some (.inr qJ)) (given_3,0)) fun(yW:aa)=>
 some (aL.mk n_0 qS yW)
def AQ:IC:=
 (af [i1 5 (.dc 4 (.t 1)),i1 7 (.dc 4 (.t 3)),i1 8 (.aq U8)] [0,2,5,7,8]
 (.join [(0,false),(2,true),(7,false),(8,false)] (af [i1 13 (.call 151 []),le 14 0 13,mi 15 0] [0,2,5,7,8,13,14,15]
 (.block 0 (.loop [(0,false),(2,true),(5,false),(7,false),(8,false),(13,false),(14,false),(15,false)] (af [bt 16 .lss 15 14] [0,2,5,7,8,13,14,15,16]
 (.seq (.cond (.t 16) .skip
 (.exit 0))
 (.join [(0,false),(2,true),(5,false),(7,false),(8,false),(13,false),(14,false),(15,false)] (.block 1 (af [ia 17 [.str []] 13 15,ld 18 1 17,mv 10 18] [0,2,5,7,8,10,13,14,15]
 (af [lm 20 4 5,mv 21 10,c2 22 37 20 21,iV 19 22,ex 23 19 0,ex 24 19 1,i1 11 (.aq iA),st 4 11 23,mv 12 24] [0,2,5,7,8,10,12,13,14,15]
 (af [mv 25 12] [0,2,5,7,8,10,13,14,15,25]
 (.cond (.t 25) (.bN none [lm 26 4 7,mv 27 10,c2 28 53 26 27,st 4 7 28] [0,2,5,7,8,13,14,15])
 .skip)))))
 (.bN none [bn 29 .add 15 1,mv 15 29] [0,2,5,7,8,13,14,15])))))))
 (af [mv 30 0,mt 31 2,lm 32 4 7,i1 33 (.build U8 [(0,1,(.t 30)),(1,1,(.t 31)),(2,4,(.t 32))]),st 6 8 33] [8]
 .ret)))
theorem Mr:aE prog 97 34 [⟨8,false,some (6,true)⟩] AQ=true:=by kernel_rfl
theorem NC{n_0 jN qS given_3}{s:ab}{Q:List AV->ab->Prop}:ok (kZ n_0 jN qS given_3) (fun r=>Q [.agg [.int .i64 r.eA,sF 1 r.Path,.int .i64 r.an.Kind,.int .i64 r.an.N,.str r.an.S.b,sF 4 r.an.L]] s)->FN prog 97 [.int .i64 n_0,oV jN,sF 1 qS,oV given_3] s Q:=by
 intro h
 refine FO Mr rfl rfl ?_
 revert h
 rw[AQ,kZ]
 repeat'(first
  |(with_reducible first|exact cW|refine bK ?_ ?_|refine de ?_|refine ak (fun _(h:dY=some _)=>qz h) (fun r5=>?_)|refine ak (fun _(h:bk jN (ix r5 t7)=some _)=>ft h) (fun r20=>?_)|refine ak (fun _(h:bS qJ (ix r5 t7)=some _)=>rf h) (fun r21=>?_))
  |((with_reducible refine dA (live:=[(0,false),(2,true),(5,false),(7,false),(8,false),(13,false),(14,false),(15,false)]) (fun(sD:aa)=>⟨[(0,.int .i64 n_0),(2,sF 1 qS),(5,.loc [.int .i64 jN.Kind,.int .i64 jN.N,.str jN.S.b,sF 4 jN.L]),(7,.loc [.int .i64 sD.Kind,.int .i64 sD.N,.str sD.S.b,sF 4 sD.L]),(8,.loc [.int .i64 0,.sl true 1 0 [],.int .i64 0,.int .i64 0,.str (aw.mk []).b,.sl true 4 0 []]),(13,sT 1 r5),(14,.int .i64 (r5.length:Int)),(15,.int .i64 t7)],[],s⟩) (fun J=>?_) ?_);rotate_left;rintro sD)
  |((with_reducible refine bF (fun((qJ,t7):aa×Int)=>⟨[(0,.int .i64 n_0),(2,sF 1 qS),(5,.loc [.int .i64 jN.Kind,.int .i64 jN.N,.str jN.S.b,sF 4 jN.L]),(7,.loc [.int .i64 qJ.Kind,.int .i64 qJ.N,.str qJ.S.b,sF 4 qJ.L]),(8,.loc [.int .i64 0,.sl true 1 0 [],.int .i64 0,.int .i64 0,.str (aw.mk []).b,.sl true 4 0 []]),(13,sT 1 r5),(14,.int .i64 (r5.length:Int)),(15,.int .i64 t7)],[],s⟩) ?_ ?_);(first|exact rfl|simp -implicitDefEqProofs only[go_sem,seval]);rintro J ⟨qJ,t7⟩)
  |((with_reducible refine dA (live:=[(0,false),(2,true),(7,false),(8,false)]) (fun(yW:aa)=>⟨[(0,.int .i64 n_0),(2,sF 1 qS),(7,.loc [.int .i64 yW.Kind,.int .i64 yW.N,.str yW.S.b,sF 4 yW.L]),(8,.loc [.int .i64 0,.sl true 1 0 [],.int .i64 0,.int .i64 0,.str (aw.mk []).b,.sl true 4 0 []])],[],s⟩) (fun J=>?_) ?_);rotate_left;rintro yW)
  |simp -implicitDefEqProofs only[go_sem,seval])
theorem NB{n_0 jN qS given_3}{s:ab}{r:aL}(h:kZ n_0 jN qS given_3=some r):FE prog 97 [.int .i64 n_0,oV jN,sF 1 qS,oV given_3] s [.agg [.int .i64 r.eA,sF 1 r.Path,.int .i64 r.an.Kind,.int .i64 r.an.N,.str r.an.S.b,sF 4 r.an.L]] s:=NC ⟨r,h,rfl,rfl⟩
def jD(f_0:nd)(p_1:Int):Option (aL×Int×Int):=
 aW (nV f_0) fun r1=>
 if r1.2.2 !=0 then
  some ((aL.mk 0 ([]:List Int) (aa.mk 0 0 (aw.mk []) ([]:List aa))),r1.2.1,r1.2.2)
 else
  if(decide (p_1<0))||(decide (p_1>=r1.1.eG))then
   some ((aL.mk 0 ([]:List Int) (aa.mk 0 0 (aw.mk []) ([]:List aa))),0,25)
  else
   aW (cZ ([]:List aa)) fun r2=>
   yp (
    jG (
     iter (fun((p7,x8,Be,qh,t11):Int×aD×(List Int)×aa×Int)=>
      if decide (t11<64)then
       yp (
        aG ((Be.length+[x8.n_].length)*8<=room)<|
        aW (kY qh x8.v_) fun r26=>
        if x8.eG==(x8.dE.length:Int)then
         aG (0<=p7/\p7<x8.dE.length)<|
         aW (fA f_0 (ix x8.dE p7)) fun r27=>
         if r27.2.2 !=0 then
          some (.inr ((aL.mk 0 ([]:List Int) (aa.mk 0 0 (aw.mk []) ([]:List aa))),r27.2.1,r27.2.2))
         else
          aW (kX r27.1) fun r28=>
          if r28 then
           aW (kZ (ix x8.dE p7) r27.1.V (Be++[x8.n_]) r26) fun r29=>
           some (.inr (r29,(0:Int),(0:Int)))
          else
           aW (eT (ix x8.dE p7) r27.1) fun r30=>
           if(!r30.2)||(r30.1.eG !=1)then
            some (.inr ((aL.mk 0 ([]:List Int) (aa.mk 0 0 (aw.mk []) ([]:List aa))),(0:Int),(24:Int)))
           else
            some (.inl (0,r30.1,Be++[x8.n_],r26))
        else
         yp (
          jG (
           iter (fun((p42,t43):Int×Int)=>
            if decide (t43<(x8.dE.length:Int))then
             aG (0<=t43/\t43<x8.dE.length)<|
             aW (jr f_0 (ix x8.dE t43)) fun r55=>
             if r55.2.2 !=0 then
              some (.inr (.inr (.inr (r55.2.1,r55.2.2))))
             else
              if decide (p42<r55.1.eG)then
               some (.inr (.inl (p42,r55.1)))
              else
               some (.inl (bj (p42 -r55.1.eG),bj (t43+1)))
            else
             some (.inr (.inr (.inl ())))) (p7,0)) (fun((p45,x47):Int×aD)=>
           some (.inr (.inl (p45,x47))))
          (lA (fun(_:Unit)=>some (.inl ())) (fun((t53,t54):Int×Int)=>some (.inr (.inr (t53,t54)))))) (fun(_:Unit)=>
          some (.inr ((aL.mk 0 ([]:List Int) (aa.mk 0 0 (aw.mk []) ([]:List aa))),(0:Int),(24:Int))))
         (lA (fun((p33,x35):Int×aD)=>some (.inl (p33,x35,Be++[x8.n_],r26))) (fun((t40,t41):Int×Int)=>some (.inr ((aL.mk 0 ([]:List Int) (aa.mk 0 0 (aw.mk []) ([]:List aa))),t40,t41))))) (fun((p17,x19,MP,sE):Int×aD×(List Int)×aa)=>
        some (.inl (p17,x19,MP,sE,bj (t11+1))))
       (fun((t23,t24,t25):aL×Int×Int)=>some (.inr (.inr (t23,t24,t25))))
      else
       some (.inr (.inl ()))) (p_1,r1.1,([]:List Int),r2,0)) (fun(_:Unit)=>
     some (.inl ()))
    (fun((t13,t14,t15):aL×Int×Int)=>some (.inr (t13,t14,t15)))) (fun(_:Unit)=>
    some ((aL.mk 0 ([]:List Int) (aa.mk 0 0 (aw.mk []) ([]:List aa))),0,24))
   (fun((t4,t5,t6):aL×Int×Int)=>some (t4,t5,t6))
def AM:IC:=
 (af [i1 4 (.aq U8),mi 5 0,mi 6 0] [0,1,4]
 (.scope (af [mv 24 0,c1 25 93 24,iV 23 25,ex 26 23 0,ex 27 23 1,ex 28 23 2,i1 7 (.aq [.int .i64 0,.int .i64 0,.int .i64 0,.str [],.sl true 4 0 [],.sl true 1 0 [],.int .i64 0]),st 7 7 26,mv 8 27,mv 9 28] [0,1,4,7,8,9]
 (.seq (.block 0 (af [mv 30 9,bn 31 .neq 30 0,mv 29 31] [0,1,4,7,8,9,29]
 (.cond (.t 29) (af [i1 32 (.build U8 []),mv 33 8,mv 34 9,st 6 4 32,mv 5 33,mv 6 34] [4,5,6]
 .ret)
 (af [mv 36 1,bn 37 .lss 36 0,mv 38 37,dh 39 1 38 false,fg 40 38 false 6 7,lg 41 38 false 1 40,sY 42 38 false .geq 39 41,po 43 38 42,mv 35 43] [0,1,4,7,35]
 (.cond (.t 35) (af [i1 44 (.build U8 []),st 6 4 44,mi 5 0,mi 6 25] [4,5,6]
 .ret)
 .skip)))))
 (af [i1 10 (.jL true (.c (.sl true 1 0 [])))] [0,1,4,7,10]
 (af [i1 45 (.call 86 [(.c (.sl true 4 0 []))]),i1 11 (.aq iA),st 4 11 45] [0,1,4,7,10,11]
 (.seq (.label 0)
 (.join [(4,false)] (af [mi 46 0] [0,1,4,7,10,11,46]
 (.block 1 (.loop [(0,false),(1,false),(4,false),(7,false),(10,false),(11,false),(46,false)] (af [bn 47 .lss 46 64] [0,1,4,7,10,11,46,47]
 (.seq (.cond (.t 47) .skip
 (.exit 1))
 (.join [(0,false),(1,false),(4,false),(7,false),(10,false),(11,false),(46,false)] (.block 2 (.seq (.wq [11] 11 [mt 48 10,fa 49 0 7,ld 50 1 49,i1 51 (.bq 1 1 jV [(0,1,(.t 50))]),UF 52 1 8 48 51,lm 53 4 11,fa 54 1 7,lm 55 4 54,c2 56 94 53 55,mt 10 52,st 4 11 56] [0,1,4,7,10,11,46])
 (.seq (af [fa 57 6 7,ld 58 1 57,fa 59 5 7,ld 60 1 59,le 61 0 60,bt 62 .eql 58 61] [0,1,4,7,10,11,46,62]
 (.cond (.t 62) (af [fa 63 5 7,ld 64 1 63,mv 65 1,ia 66 jV 64 65,ld 67 1 66,mv 12 67] [0,4,7,10,11,12,46]
 (af [mv 69 0,mv 70 12,c2 71 95 69 70,iV 68 71,ex 72 68 0,ex 73 68 1,ex 74 68 2,i1 13 (.aq zz),st 6 13 72,mv 14 73,mv 15 74] [0,4,7,10,11,12,13,14,15,46]
 (.seq (.block 3 (af [mv 76 15,bn 77 .neq 76 0,mv 75 77] [0,4,7,10,11,12,13,14,15,46,75]
 (.cond (.t 75) (af [i1 78 (.build U8 []),mv 79 14,mv 80 15,st 6 4 78,mv 5 79,mv 6 80] [4,5,6]
 .ret)
 (af [lm 82 6 13,c1 83 96 82,mv 81 83] [0,4,7,10,11,12,13,46,81]
 (.cond (.t 81) (af [mv 84 12,fa 85 0 13,lm 86 4 85,mt 87 10,lm 88 4 11,UG 89 97 84 86 87 88,st 6 4 89,mi 5 0,mi 6 0] [4,5,6]
 .ret)
 .skip)))))
 (af [mv 91 12,lm 92 6 13,c2 93 98 91 92,iV 90 93,ex 94 90 0,ex 95 90 1,i1 16 (.aq [.int .i64 0,.int .i64 0,.int .i64 0,.str [],.sl true 4 0 [],.sl true 1 0 [],.int .i64 0]),st 7 16 94,mv 17 95] [0,4,7,10,11,16,17,46]
 (.seq (af [mv 96 17,no 97 96,mv 98 97,fg 99 98 false 6 16,lg 100 98 false 1 99,kS 101 98 false .neq 100 1,po 102 98 101] [0,4,7,10,11,16,46,102]
 (.cond (.t 102) (af [i1 103 (.build U8 []),st 6 4 103,mi 5 0,mi 6 24] [4,5,6]
 .ret)
 .skip))
 (af [lm 104 7 16,st 7 7 104,mi 1 0] [0,1,4,7,10,11,46]
 (.exit 2)))))))
 .skip))
 (.join [(4,false)] (af [fa 105 5 7,ld 106 1 105,le 107 0 106,mi 108 0] [0,1,4,7,10,11,46,106,107,108]
 (.block 4 (.loop [(0,false),(1,false),(4,false),(7,false),(10,false),(11,false),(46,false),(106,true),(107,false),(108,false)] (af [bt 109 .lss 108 107] [0,1,4,7,10,11,46,106,107,108,109]
 (.seq (.cond (.t 109) .skip
 (.exit 4))
 (.seq (.block 5 (af [ia 110 jV 106 108,ld 111 1 110,mv 19 111] [0,1,4,7,10,11,19,46,106,107,108]
 (af [mv 113 0,mv 114 19,c2 115 99 113 114,iV 112 115,ex 116 112 0,ex 117 112 1,ex 118 112 2,i1 20 (.aq [.int .i64 0,.int .i64 0,.int .i64 0,.str [],.sl true 4 0 [],.sl true 1 0 [],.int .i64 0]),st 7 20 116,mv 21 117,mv 22 118] [0,1,4,7,10,11,20,21,22,46,106,107,108]
 (.seq (af [mv 119 22,bn 120 .neq 119 0] [0,1,4,7,10,11,20,21,22,46,106,107,108,120]
 (.cond (.t 120) (af [i1 121 (.build U8 []),mv 122 21,mv 123 22,st 6 4 121,mv 5 122,mv 6 123] [4,5,6]
 .ret)
 .skip))
 (.seq (af [mv 124 1,fa 125 6 20,ld 126 1 125,bt 127 .lss 124 126] [0,1,4,7,10,11,20,46,106,107,108,127]
 (.cond (.t 127) (af [lm 128 7 20,st 7 7 128] [0,1,4,7,10,11,46]
 (.exit 2))
 .skip))
 (.bN none [mv 129 1,fa 130 6 20,ld 131 1 130,bt 132 .sub 129 131,mv 1 132] [0,1,4,7,10,11,46,106,107,108]))))))
 (.bN none [bn 133 .add 108 1,mv 108 133] [0,1,4,7,10,11,46,106,107,108])))))))
 (af [i1 134 (.build U8 []),st 6 4 134,mi 5 0,mi 6 24] [4,5,6]
 .ret)))))
 (.bN none [bn 135 .add 46 1,mv 46 135] [0,1,4,7,10,11,46])))))))
 (af [i1 136 (.build U8 []),st 6 4 136,mi 5 0,mi 6 24] [4,5,6]
 .ret)))))))))
theorem Mn:aE prog 46 137 [⟨4,false,some (6,true)⟩,⟨5,true,none⟩,⟨6,true,none⟩] AM=true:=by kernel_rfl
theorem Nu{f_0 p_1}{s:ab}{Q:List AV->ab->Prop}(va0:dj s f_0):ok (jD f_0 p_1) (fun r=>Q [.agg [.int .i64 r.1.eA,sF 1 r.1.Path,.int .i64 r.1.an.Kind,.int .i64 r.1.an.N,.str r.1.an.S.b,sF 4 r.1.an.L],.int .i64 r.2.1,.int .i64 r.2.2] s)->FN prog 46 [.ref f_0.B 0,.int .i64 p_1] s Q:=by
 intro h
 refine FO Mn rfl rfl ?_
 revert h
 rw[AM,jD]
 repeat'(first
  |with_reducible exact cW
  |((with_reducible refine QB ?_ ?_);exact rfl)
  |((with_reducible refine adA ?_ ?_);exact rfl)
  |(with_reducible first|refine bK ?_ ?_|refine de ?_|refine ak (fun _(h:nV f_0=some _)=>Qi (dj.mono (by assumption) (by repeat'(first|exact Sub.refl _|refine Sub.set ?_ ?_|assumption|(simp[ab.set, *];done)))) h) (fun r1=>?_)|refine ak (fun _(h:cZ ([]:List aa)=some _)=>(by refine jZ ?_ (j9 h);simp -implicitDefEqProofs only[go_sem,seval])) (fun r2=>?_)|refine b6 (fun _(h:kY qh x8.v_=some _)=>Nz h) (fun _=>rfl) (fun r26=>?_)|refine ak (fun _(h:fA f_0 (ix x8.dE p7)=some _)=>ox (dj.mono (by assumption) (by repeat'(first|exact Sub.refl _|refine Sub.set ?_ ?_|assumption|(simp[ab.set, *];done)))) h) (fun r27=>?_)|refine ak (fun _(h:kX r27.1=some _)=>Nv h) (fun r28=>?_)|refine ak (fun _(h:kZ (ix x8.dE p7) r27.1.V (Be++[x8.n_]) r26=some _)=>(by refine jZ ?_ (NB h);simp -implicitDefEqProofs only[go_sem,seval])) (fun r29=>?_)|refine ak (fun _(h:eT (ix x8.dE p7) r27.1=some _)=>wG h) (fun r30=>?_)|refine ak (fun _(h:jr f_0 (ix x8.dE t43)=some _)=>DB (dj.mono (by assumption) (by repeat'(first|exact Sub.refl _|refine Sub.set ?_ ?_|assumption|(simp[ab.set, *];done)))) h) (fun r55=>?_))
  |((with_reducible refine bF (fun((p42,t43):Int×Int)=>⟨[(0,.ref f_0.B 0),(1,.int .i64 p42),(4,.loc [.int .i64 0,.sl true 1 0 [],.int .i64 0,.int .i64 0,.str (aw.mk []).b,.sl true 4 0 []]),(7,.loc [.int .i64 x8.n_,.int .i64 x8.v_.Kind,.int .i64 x8.v_.N,.str x8.v_.S.b,sF 4 x8.v_.L,sF 1 x8.dE,.int .i64 x8.eG]),(10,sT 1 (Be++[x8.n_])),(11,.loc [.int .i64 r26.Kind,.int .i64 r26.N,.str r26.S.b,sF 4 r26.L]),(46,.int .i64 t11),(106,sF 1 x8.dE),(107,.int .i64 (x8.dE.length:Int)),(108,.int .i64 t43)],[],s⟩) ?_ ?_);(first|exact rfl|simp -implicitDefEqProofs only[go_sem,seval]);rintro J ⟨p42,t43⟩)
  |((with_reducible refine fh (live:=[(4,false)]) (fun(_:Unit)=>⟨[(4,.loc [.int .i64 0,.sl true 1 0 [],.int .i64 0,.int .i64 0,.str (aw.mk []).b,.sl true 4 0 []])],[],s⟩) (fun J=>?_) ?_);rotate_left;rintro _)
  |((with_reducible refine fh (live:=[(0,false),(1,false),(4,false),(7,false),(10,false),(11,false),(46,false)]) (fun((p17,x19,MP,sE):Int×aD×(List Int)×aa)=>⟨[(0,.ref f_0.B 0),(1,.int .i64 p17),(4,.loc [.int .i64 0,.sl true 1 0 [],.int .i64 0,.int .i64 0,.str (aw.mk []).b,.sl true 4 0 []]),(7,.loc [.int .i64 x19.n_,.int .i64 x19.v_.Kind,.int .i64 x19.v_.N,.str x19.v_.S.b,sF 4 x19.v_.L,sF 1 x19.dE,.int .i64 x19.eG]),(10,sT 1 MP),(11,.loc [.int .i64 sE.Kind,.int .i64 sE.N,.str sE.S.b,sF 4 sE.L]),(46,.int .i64 t11)],[],s⟩) (fun J=>?_) ?_);rotate_left;rintro⟨p17,x19,MP,sE⟩)
  |((with_reducible refine bF (fun((p7,x8,Be,qh,t11):Int×aD×(List Int)×aa×Int)=>⟨[(0,.ref f_0.B 0),(1,.int .i64 p7),(4,.loc [.int .i64 0,.sl true 1 0 [],.int .i64 0,.int .i64 0,.str (aw.mk []).b,.sl true 4 0 []]),(7,.loc [.int .i64 x8.n_,.int .i64 x8.v_.Kind,.int .i64 x8.v_.N,.str x8.v_.S.b,sF 4 x8.v_.L,sF 1 x8.dE,.int .i64 x8.eG]),(10,sT 1 Be),(11,.loc [.int .i64 qh.Kind,.int .i64 qh.N,.str qh.S.b,sF 4 qh.L]),(46,.int .i64 t11)],[],s⟩) ?_ ?_);(first|exact rfl|simp -implicitDefEqProofs only[go_sem,seval]);rintro J ⟨p7,x8,Be,qh,t11⟩)
  |simp -implicitDefEqProofs only[go_sem,seval])
theorem Nt{f_0 p_1}{s:ab}{r:aL×Int×Int}(va0:dj s f_0)(h:jD f_0 p_1=some r):FE prog 46 [.ref f_0.B 0,.int .i64 p_1] s [.agg [.int .i64 r.1.eA,sF 1 r.1.Path,.int .i64 r.1.an.Kind,.int .i64 r.1.an.N,.str r.1.an.S.b,sF 4 r.1.an.L],.int .i64 r.2.1,.int .i64 r.2.2] s:=Nu va0 ⟨r,h,rfl,rfl⟩
structure bI where
 l_:(List Int)
 Ua:(List (Int×Int))
def dI(k:Int):AV:=.int .i64 k
def eH(v:Int):AV:=.int .i64 v
theorem FL(a b:Int):lK (dI a) (dI b)=(a==b):=mA a b
@[go_sem]theorem adl(ok:Bool)(m:(List (Int×Int)))(k:Int):oJ (.int .i64) (.int .i64 0) ok (.int .i64 k) (some (.map (gK dI eH m)))=.prt True (ID ok (.int .i64 (Rx 0 m k)) (PE m k)):=Dr (ek:=dI) (ev:=eH) (z:=0) (fun _=>rfl) FL rfl (fun _=>rfl) (fun _=>rfl) ok m k
@[go_sem]theorem aeC(b:Nat)(E:St)(d:Option Nat)(K:St->Prop)(m:(List (Int×Int)))(k:Int)(v:Int):U0 (.int .i64) b E (.int .i64 k) (.int .i64 v) d K (some (.map (gK dI eH m)))=K ({E with s:=E.s.set b (.map (gK dI eH (qO m k v)))}.put d (.gw [])):=Ql (ek:=dI) (ev:=eH) (fun _=>rfl) FL (fun _=>rfl) m k v rfl rfl
def cj(r_0:bI)(l_1:(List Int)):Option (bI):=
 iter (fun((t1,o2):Int×bI)=>
  if decide (t1<(l_1.length:Int))then
   jn (
    aG (0<=t1/\t1<l_1.length)<|
    if !(PE o2.Ua (ix l_1 t1))then
     aG ((o2.l_.length+[ix l_1 t1].length)*8<=room)<|
     some (bI.mk (o2.l_++[ix l_1 t1]) (qO o2.Ua (ix l_1 t1) (o2.l_.length:Int)))
    else
     some o2) fun(o7:bI)=>
   some (.inl (bj (t1+1),o7))
  else
   some (.inr o2)) (0,r_0)
def rK:IC:=
 (af [mt 8 1,le 9 0 8,mi 10 0] [0,8,9,10]
 (.block 0 (.loop [(0,false),(8,true),(9,false),(10,false)] (af [bt 11 .lss 10 9] [0,8,9,10,11]
 (.seq (.cond (.t 11) .skip
 (.exit 0))
 (.join [(0,false),(8,true),(9,false),(10,false)] (.block 1 (af [ia 12 jV 8 10,ld 13 1 12,mv 5 13] [0,5,8,9,10]
 (af [mv 15 0,nc 16 15,fa 17 1 16,i1 18 (.bf [.oL] false (.t 17)),mv 19 5,i1 20 (.lookup (.int .i64) (.int .i64 0) true (.t 18) (.t 19)),iV 14 20,ex 21 14 0,ex 22 14 1,mv 6 21,mv 7 22] [0,5,7,8,9,10]
 (af [mv 23 7,no 24 23] [0,5,8,9,10,24]
 (.cond (.t 24) (.seq (.bN (some 10) [mv 25 0,nc 26 25,fa 27 1 26,i1 28 (.bf [.oL] false (.t 27)),mv 29 5,mv 30 0,nc 31 30,fa 32 0 31,i1 33 (.bf [.sl false 1 0 []] false (.t 32)),le 34 0 33,i0 (.mapUpdate (.int .i64) (.t 28) (.t 29) (.t 34))] [0,5,8,9,10])
 (.bN none [mv 35 0,mv 36 0,nc 37 36,fa 38 0 37,i1 39 (.jh (.t 38)),mv 40 5,i1 41 (.bq 1 1 jV [(0,1,(.t 40))]),UF 42 1 8 39 41,nc 43 35,fa 44 0 43,st 1 44 42] [0,8,9,10]))
 .skip)))))
 (.bN none [bn 45 .add 10 1,mv 10 45] [0,8,9,10])))))))
theorem B7:aE prog 100 46 [] rK=true:=by kernel_rfl
theorem gJ{r_0 l_1}{B0 B0_in_:Nat}{s:ab}{Q:List AV->ab->Prop}(hB0:s B0=some (.cells [sT 1 r_0.l_,.mp B0_in_]))(Zj:s B0_in_=some (.map (gK dI eH r_0.Ua)))(oT:B0≠B0_in_):ok (cj r_0 l_1) (fun r=>Q [] ((s.set B0 (.cells [sT 1 r.l_,.mp B0_in_])).set B0_in_ (.map (gK dI eH r.Ua))))->FN prog 100 [.ref B0 0,sF 1 l_1] s Q:=by
 have hS:s=((s.set B0 (.cells [sT 1 r_0.l_,.mp B0_in_])).set B0_in_ (.map (gK dI eH r_0.Ua))):=by simp only[dN hB0,dN Zj]
 rw[hS]
 intro h
 refine FO B7 rfl rfl ?_
 revert h
 rw[rK,cj]
 repeat'(first
  |(with_reducible first|exact cW|refine bK ?_ ?_|refine de ?_)
  |((with_reducible refine dA (fun(o7:bI)=>⟨[(0,.ref B0 0),(8,sF 1 l_1),(9,.int .i64 (l_1.length:Int)),(10,.int .i64 t1)],[],((s.set B0 (.cells [sT 1 o7.l_,.mp B0_in_])).set B0_in_ (.map (gK dI eH o7.Ua)))⟩) (fun J=>?_) ?_);rotate_left;rintro o7)
  |((with_reducible refine bF (fun((t1,o2):Int×bI)=>⟨[(0,.ref B0 0),(8,sF 1 l_1),(9,.int .i64 (l_1.length:Int)),(10,.int .i64 t1)],[],((s.set B0 (.cells [sT 1 o2.l_,.mp B0_in_])).set B0_in_ (.map (gK dI eH o2.Ua)))⟩) ?_ ?_);(first|exact rfl|simp -implicitDefEqProofs only[go_sem,seval,ai oT,ai oT.symm,set_comm oT]);rintro J ⟨t1,o2⟩)
  |simp -implicitDefEqProofs only[go_sem,seval,ai oT,ai oT.symm,set_comm oT])
def cV(k:Int):AV:=.int .i64 k
def dx(v:Bool):AV:=.bool v
theorem C5(a b:Int):lK (cV a) (cV b)=(a==b):=mA a b
@[go_sem]theorem abA(ok:Bool)(m:(List (Int×Bool)))(k:Int):oJ (.int .i64) (.bool false) ok (.int .i64 k) (some (.map (gK cV dx m)))=.prt True (ID ok (.bool (Rx false m k)) (PE m k)):=Dr (ek:=cV) (ev:=dx) (z:=false) (fun _=>rfl) C5 rfl (fun _=>rfl) (fun _=>rfl) ok m k
@[go_sem]theorem acb(b:Nat)(E:St)(d:Option Nat)(K:St->Prop)(m:(List (Int×Bool)))(k:Int)(v:Bool):U0 (.int .i64) b E (.int .i64 k) (.bool v) d K (some (.map (gK cV dx m)))=K ({E with s:=E.s.set b (.map (gK cV dx (qO m k v)))}.put d (.gw [])):=Ql (ek:=cV) (ev:=dx) (fun _=>rfl) C5 (fun _=>rfl) m k v rfl rfl
def jE(x_0:aa)(c_1:(List (Int×Bool)))(c_2:(List Int)):Option (Bool×(List (Int×Bool))×(List Int)):=
 jn (
  if(x_0.Kind==8)&&(!(Rx false c_1 x_0.N))then
   aG ((c_2.length+[x_0.N].length)*8<=room)<|
   some (qO c_1 x_0.N true,c_2++[x_0.N])
  else
   some (c_1,c_2)) fun((o1,o2):(List (Int×Bool))×(List Int))=>
 some (true,o1,o2)
def tU:IC:=
 (af [i1 3 (.dc 4 (.t 0)),c6 4 (.bool false)] [1,2,3]
 (.join [] (.seq (.bN (some 8) [fa 5 0 3,ld 6 1 5,bn 7 .eql 6 8,mv 8 7,dq 9 8 true (.bf [.oL] false (.t 1)),fg 10 8 true 1 3,lg 11 8 true 1 10,dq 12 8 true (.lookup (.int .i64) (.bool false) false (.t 9) (.t 11)),dq 13 8 true (.un .not (.t 12)),pf 14 8 13] [1,2,3,14])
 (.cond (.t 14) (af [i1 15 (.bf [.oL] false (.t 1)),fa 16 1 3,ld 17 1 16,i0 (.mapUpdate (.int .i64) (.t 15) (.t 17) (.c (.bool true)))] [2,3]
 (.bN none [i1 18 (.jh (.t 2)),fa 19 1 3,ld 20 1 19,i1 21 (.bq 1 1 jV [(0,1,(.t 20))]),UF 22 1 8 18 21,st 1 2 22] []))
 .skip))
 (af [c6 4 (.bool true)] [4]
 .ret)))
theorem D6:aE prog 198 23 [⟨4,true,none⟩] tU=true:=by kernel_rfl
theorem Ep{x_0 c_1 c_2}{B1 B1_m B2:Nat}{s:ab}{Q:List AV->ab->Prop}(hB1:s B1=some (.cells [.mp B1_m]))(agW:s B1_m=some (.map (gK cV dx c_1)))(hB2:s B2=some (.cells [sT 1 c_2]))(MG:B1≠B1_m)(WX:B1≠B2)(MH:B1_m≠B2):ok (jE x_0 c_1 c_2) (fun r=>Q [.bool r.1] (((s.set B1 (.cells [.mp B1_m])).set B1_m (.map (gK cV dx r.2.1))).set B2 (.cells [sT 1 r.2.2])))->FN prog 198 [oV x_0,.ref B1 0,.ref B2 0] s Q:=by
 have hS:s=(((s.set B1 (.cells [.mp B1_m])).set B1_m (.map (gK cV dx c_1))).set B2 (.cells [sT 1 c_2])):=by simp only[dN hB1,dN agW,dN hB2]
 rw[hS]
 intro h
 refine FO D6 rfl rfl ?_
 revert h
 rw[tU,jE]
 repeat'(first
  |((with_reducible refine dA (fun((o1,o2):(List (Int×Bool))×(List Int))=>⟨[],[],(((s.set B1 (.cells [.mp B1_m])).set B1_m (.map (gK cV dx o1))).set B2 (.cells [sT 1 o2]))⟩) (fun J=>?_) ?_);rotate_left;rintro⟨o1,o2⟩)
  |simp -implicitDefEqProofs only[go_sem,seval,ai MG,ai MG.symm,set_comm MG,ai WX,ai WX.symm,set_comm WX,ai MH,ai MH.symm,set_comm MH])
def gq:Nat->aa->(List (Int×Bool))->(List Int)->Option (Bool×(List (Int×Bool))×(List Int))
 |0,_,_,_=>none
 |fuel+1,v_0,QG,QH=>
  aW (jE v_0 QG QH) fun r1=>
  if !r1.1 then
   some (false,r1.2.1,r1.2.2)
  else
   if(v_0.Kind !=6)&&(v_0.Kind !=7)then
    some (true,r1.2.1,r1.2.2)
   else
    yp (
     jG (
      iter (fun((t7,o8,o9):Int×(List (Int×Bool))×(List Int))=>
       if decide (t7<(v_0.L.length:Int))then
        aG (0<=t7/\t7<v_0.L.length)<|
        aW (gq fuel (ix v_0.L t7) o8 o9) fun r15=>
        if !r15.1 then
         some (.inr (.inr (false,r15.2.1,r15.2.2)))
        else
         some (.inl (bj (t7+1),r15.2.1,r15.2.2))
       else
        some (.inr (.inl (o8,o9)))) (0,r1.2.1,r1.2.2)) (fun((o10,o11):(List (Int×Bool))×(List Int))=>
      some (.inl (o10,o11)))
     (fun((t12,o13,o14):Bool×(List (Int×Bool))×(List Int))=>some (.inr (t12,o13,o14)))) (fun((o2,o3):(List (Int×Bool))×(List Int))=>
     some (true,o2,o3))
    (fun((t4,o5,o6):Bool×(List (Int×Bool))×(List Int))=>some (t4,o5,o6))
theorem nq:(pz prog 198=true)=True:=eq_true (by kernel_rfl)
def yn:IC:=
 (af [i1 2 (.dc 4 (.t 0)),c6 4 (.bool false)] [1,2]
 (.seq (af [mv 7 1,lm 8 4 2,i1 9 (.cu (.t 7) [(.t 8)]),no 10 9] [1,2,10]
 (.cond (.t 10) (af [c6 4 (.bool false)] [4]
 .ret)
 .skip))
 (.seq (af [fa 11 0 2,ld 12 1 11,bn 13 .neq 12 6,mv 14 13,fg 15 14 true 0 2,lg 16 14 true 1 15,kS 17 14 true .neq 16 7,pf 18 14 17] [1,2,18]
 (.cond (.t 18) (af [c6 4 (.bool true)] [4]
 .ret)
 .skip))
 (.join [] (af [fa 19 3 2,ld 20 1 19,le 21 0 20,mi 22 0] [1,20,21,22]
 (.block 0 (.loop [(1,false),(20,true),(21,false),(22,false)] (af [bt 23 .lss 22 21] [1,20,21,22,23]
 (.seq (.cond (.t 23) .skip
 (.exit 0))
 (.seq (.block 1 (af [ia 24 qT 20 22,lm 25 4 24,i1 6 (.aq iA),st 4 6 25] [1,6,20,21,22]
 (af [lm 26 4 6,mv 27 1,c2 28 197 26 27,no 29 28] [1,20,21,22,29]
 (.cond (.t 29) (af [c6 4 (.bool false)] [4]
 .ret)
 .skip))))
 (.bN none [bn 30 .add 22 1,mv 22 30] [1,20,21,22])))))))
 (af [c6 4 (.bool true)] [4]
 .ret)))))
theorem Jw:aE prog 197 31 [⟨4,true,none⟩] yn=true:=by kernel_rfl
theorem Kc{fuel:Nat}:∀{v_0:aa}{QG:(List (Int×Bool))}{QH:(List Int)}{B1_0 B1_0_m B1_1:Nat}{s:ab}{Q:List AV->ab->Prop}(abk:s B1_0=some (.cells [.mp B1_0_m]))(SP:s B1_0_m=some (.map (gK cV dx QG)))(abl:s B1_1=some (.cells [sT 1 QH]))(ba:B1_0≠B1_0_m)(bO:B1_0≠B1_1)(bc:B1_0_m≠B1_1),ok (gq fuel v_0 QG QH) (fun r=>Q [.bool r.1] (((s.set B1_0 (.cells [.mp B1_0_m])).set B1_0_m (.map (gK cV dx r.2.1))).set B1_1 (.cells [sT 1 r.2.2])))->FN prog 197 [oV v_0,.fn 198 [] [.ref B1_0 0,.ref B1_1 0]] s Q:=by
 induction fuel with
 |zero=>intros;rename_i h;rw[gq]at h;exact absurd h (by rw[ok_none];exact fun h=>h)
 |succ fuel ih=>
 intro v_0 QG QH B1_0 B1_0_m B1_1 s Q abk SP abl ba bO bc
 have hS:s=(((s.set B1_0 (.cells [.mp B1_0_m])).set B1_0_m (.map (gK cV dx QG))).set B1_1 (.cells [sT 1 QH])):=by simp only[dN abk,dN SP,dN abl]
 rw[hS]
 intro h
 refine FO Jw rfl rfl ?_
 revert h
 rw[yn,gq]
 repeat'(first
  |(with_reducible first|exact cW|refine bK ?_ ?_|refine de ?_|refine fun hh=>Ep (B1:=B1_0) (B1_m:=B1_0_m) (B2:=B1_1) (by simp -implicitDefEqProofs only[go_sem,seval,ai ba,ai ba.symm,set_comm ba,ai bO,ai bO.symm,set_comm bO,ai bc,ai bc.symm,set_comm bc,nq]<;>simp only[bH]) (by simp -implicitDefEqProofs only[go_sem,seval,ai ba,ai ba.symm,set_comm ba,ai bO,ai bO.symm,set_comm bO,ai bc,ai bc.symm,set_comm bc,nq]<;>simp only[bH]) (by simp -implicitDefEqProofs only[go_sem,seval,ai ba,ai ba.symm,set_comm ba,ai bO,ai bO.symm,set_comm bO,ai bc,ai bc.symm,set_comm bc,nq]<;>simp only[bH]) ba bO bc (cI (show ok (jE v_0 QG QH) _ from hh) fun r1=>?_)|refine fun hh=>ih (B1_0:=B1_0) (B1_0_m:=B1_0_m) (B1_1:=B1_1) (by simp -implicitDefEqProofs only[go_sem,seval,ai ba,ai ba.symm,set_comm ba,ai bO,ai bO.symm,set_comm bO,ai bc,ai bc.symm,set_comm bc,nq]<;>simp only[bH]) (by simp -implicitDefEqProofs only[go_sem,seval,ai ba,ai ba.symm,set_comm ba,ai bO,ai bO.symm,set_comm bO,ai bc,ai bc.symm,set_comm bc,nq]<;>simp only[bH]) (by simp -implicitDefEqProofs only[go_sem,seval,ai ba,ai ba.symm,set_comm ba,ai bO,ai bO.symm,set_comm bO,ai bc,ai bc.symm,set_comm bc,nq]<;>simp only[bH]) ba bO bc (cI (show ok (gq fuel (ix v_0.L t7) o8 o9) _ from hh) fun r15=>?_))
  |((with_reducible refine bF (fun((t7,o8,o9):Int×(List (Int×Bool))×(List Int))=>⟨[(1,.fn 198 [] [.ref B1_0 0,.ref B1_1 0]),(20,sF 4 v_0.L),(21,.int .i64 (v_0.L.length:Int)),(22,.int .i64 t7)],[],(((s.set B1_0 (.cells [.mp B1_0_m])).set B1_0_m (.map (gK cV dx o8))).set B1_1 (.cells [sT 1 o9]))⟩) ?_ ?_);(first|exact rfl|simp -implicitDefEqProofs only[go_sem,seval,ai ba,ai ba.symm,set_comm ba,ai bO,ai bO.symm,set_comm bO,ai bc,ai bc.symm,set_comm bc,nq]);rintro J ⟨t7,o8,o9⟩)
  |((with_reducible refine fh (fun((o2,o3):(List (Int×Bool))×(List Int))=>⟨[],[],(((s.set B1_0 (.cells [.mp B1_0_m])).set B1_0_m (.map (gK cV dx o2))).set B1_1 (.cells [sT 1 o3]))⟩) (fun J=>?_) ?_);rotate_left;rintro⟨o2,o3⟩)
  |simp -implicitDefEqProofs only[go_sem,seval,ai ba,ai ba.symm,set_comm ba,ai bO,ai bO.symm,set_comm bO,ai bc,ai bc.symm,set_comm bc,nq])
def pZ(v_0:aa):Option ((List Int)):=
 aW (gq lf v_0 [] ([]:List Int)) fun r1=>
 some r1.2.2
def yk:IC:=
 (af [i1 1 (.dc 4 (.t 0)),i1 2 (.jL true (.c (.sl true 1 0 [])))] [1]
 (af [i1 3 (.gC [.sl true 1 0 []])] [1,3]
 (af [i1 5 (.makeMap),i1 4 (.gC [.oL]),st 1 4 5] [1,3,4]
 (af [lm 6 4 1,i1 7 (.kq 198 [] [(.t 4),(.t 3)]),c2 8 197 6 7] [3]
 (af [i1 9 (.jh (.t 3)),mt 2 9] [2]
 .ret)))))
theorem Jt:aE prog 155 10 [⟨2,true,none⟩] yk=true:=by kernel_rfl
theorem J9{v_0}{s:ab}{Q:List AV->ab->Prop}:ok (pZ v_0) (fun r=>Q [sT 1 r] s)->FN prog 155 [oV v_0] s Q:=by
 intro h
 refine FN.forget ?_
 refine FO Jt rfl rfl ?_
 revert h
 rw[yk,pZ]
 repeat'(first
  |((have _x:=sN3;clear _x);with_reducible refine fun hh=>Kc (B1_0:=N3) (B1_0_m:=N2) (B1_1:=N1) (by simp -implicitDefEqProofs only[go_sem,seval,ai bU,ai bU.symm,set_comm bU.symm,ai nN3N1,ai nN3N1.symm,set_comm nN3N1.symm,ai nN3N2,ai nN3N2.symm,set_comm nN3N2.symm]<;>simp only[bH]) (by simp -implicitDefEqProofs only[go_sem,seval,ai bU,ai bU.symm,set_comm bU.symm,ai nN3N1,ai nN3N1.symm,set_comm nN3N1.symm,ai nN3N2,ai nN3N2.symm,set_comm nN3N2.symm]<;>simp only[bH]) (by simp -implicitDefEqProofs only[go_sem,seval,ai bU,ai bU.symm,set_comm bU.symm,ai nN3N1,ai nN3N1.symm,set_comm nN3N1.symm,ai nN3N2,ai nN3N2.symm,set_comm nN3N2.symm]<;>simp only[bH]) nN3N2 nN3N1 bU (cI (show ok (gq lf v_0 [] ([]:List Int)) _ from hh) fun r1=>?_))
  |((fail_if_success (have _x:=sN1));with_reducible intro hh N1 hN1;(try simp only[cY]at hN1);have sN1:=hN1;revert hh)
  |(have _x:=sN1;clear _x;(fail_if_success (have _x:=sN2));with_reducible intro hh N2 hN2;(try simp only[cY]at hN2);obtain⟨bU,sN2⟩:=hN2;revert hh)
  |(have _x:=sN2;clear _x;(fail_if_success (have _x:=sN3));with_reducible intro hh N3 hN3;(try simp only[cY]at hN3);obtain⟨nN3N2,nN3N1,sN3⟩:=hN3;revert hh)
  |with_reducible exact fun hh=>⟨_,lx.set (lx.set (lx.set (lx.refl _) (by simp[ab.set,sN1])) (by simp[ab.set,sN2])) (by simp[ab.set,sN3]),hh⟩
  |simp -implicitDefEqProofs only[go_sem,seval,ai bU,ai bU.symm,set_comm bU.symm,ai nN3N1,ai nN3N1.symm,set_comm nN3N1.symm,ai nN3N2,ai nN3N2.symm,set_comm nN3N2.symm]
  |simp -implicitDefEqProofs only[go_sem,seval])
theorem J8{v_0}{s:ab}{r:(List Int)}(h:pZ v_0=some r):FE prog 155 [oV v_0] s [sT 1 r] s:=J9 ⟨r,h,rfl,rfl⟩
def jB(n_0:Int):Option (Bool):=some ((decide (n_0<1))||(decide (n_0>4096)))
def tL:IC:=
 (af [c6 2 (.bool false)] [0]
 (af [mv 3 0,bn 4 .lss 3 1,mv 5 4,dh 6 0 5 false,kS 7 5 false .gtr 6 4096,po 8 5 7,mv 2 8] [2]
 .ret))
theorem DY:aE prog 156 9 [⟨2,true,none⟩] tL=true:=by kernel_rfl
theorem Ee{n_0}{s:ab}{Q:List AV->ab->Prop}:ok (jB n_0) (fun r=>Q [.bool r] s)->FN prog 156 [.int .i64 n_0] s Q:=by
 intro h
 refine FO DY rfl rfl ?_
 revert h
 rw[tL,jB]
 repeat'(first
  |simp -implicitDefEqProofs only[go_sem,seval])
theorem tW{n_0}{s:ab}{r:Bool}(h:jB n_0=some r):FE prog 156 [.int .i64 n_0] s [.bool r] s:=Ee ⟨r,h,rfl,rfl⟩
def cL(s_0:(List Int)):Option (Int):=
 yp (
  jG (
   iter (fun(t2:Int)=>
    if decide (t2<(s_0.length:Int))then
     aG (0<=t2/\t2<s_0.length)<|
     aW (jB (ix s_0 t2)) fun r4=>
     if r4 then
      some (.inr (.inr t2))
     else
      some (.inl (bj (t2+1)))
    else
     some (.inr (.inl ()))) 0) (fun(_:Unit)=>
   some (.inl ()))
  (fun(t3:Int)=>some (.inr t3))) (fun(_:Unit)=>
  some (-1))
 (fun(t1:Int)=>some t1)
theorem OJ:(pz prog 156=true)=True:=eq_true (by kernel_rfl)
def jc:IC:=
 (af [mi 4 0] [0,1]
 (.join [] (af [mv 6 0,le 7 0 6,mi 8 0] [0,1,7,8]
 (.block 0 (.loop [(0,true),(1,false),(7,false),(8,false)] (af [bt 9 .lss 8 7] [0,1,7,8,9]
 (.seq (.cond (.t 9) .skip
 (.exit 0))
 (.seq (.block 1 (af [mv 10 8,mv 5 10] [0,1,5,7,8]
 (af [mv 11 1,mv 12 0,mv 13 5,ia 14 jV 12 13,ld 15 1 14,i1 16 (.cu (.t 11) [(.t 15)])] [0,1,5,7,8,16]
 (.cond (.t 16) (af [mv 17 5,mv 4 17] [4]
 .ret)
 .skip))))
 (.bN none [bn 18 .add 8 1,mv 8 18] [0,1,7,8])))))))
 (af [mi 4 (-1)] [4]
 .ret)))
theorem pJ:aE prog 196 19 [⟨4,true,none⟩] jc=true:=by kernel_rfl
theorem pX{s_0}{s:ab}{Q:List AV->ab->Prop}:ok (cL s_0) (fun r=>Q [.int .i64 r] s)->FN prog 196 [sF 1 s_0,.fn 156 [] []] s Q:=by
 intro h
 refine FO pJ rfl rfl ?_
 revert h
 rw[jc,cL]
 repeat'(first
  |(with_reducible first|exact cW|refine bK ?_ ?_|refine de ?_|refine ak (fun _(h:jB (ix s_0 t2)=some _)=>tW h) (fun r4=>?_))
  |((with_reducible refine bF (fun(t2:Int)=>⟨[(0,sF 1 s_0),(1,.fn 156 [] []),(7,.int .i64 (s_0.length:Int)),(8,.int .i64 t2)],[],s⟩) ?_ ?_);(first|exact rfl|simp -implicitDefEqProofs only[go_sem,seval,OJ]);rintro J t2)
  |((with_reducible refine fh (fun(_:Unit)=>⟨[],[],s⟩) (fun J=>?_) ?_);rotate_left;rintro _)
  |simp -implicitDefEqProofs only[go_sem,seval,OJ])
theorem jo{s_0}{s:ab}{r:Int}(h:cL s_0=some r):FE prog 196 [sF 1 s_0,.fn 156 [] []] s [.int .i64 r] s:=pX ⟨r,h,rfl,rfl⟩
def BW:IC:=
 (af [c6 4 (.arr 0 0 0 0)] [0,1]
 (af [mv 8 0,mv 9 1,c2 10 196 8 9,mv 5 10] [0,1,5]
 (.seq (af [mv 11 5,bn 12 .eql 11 (-1)] [0,1,5,12]
 (.cond (.t 12) (af [mv 13 0,mv 4 13] [4]
 .ret)
 .skip))
 (.seq (af [mv 14 5,bn 15 .add 14 1,mv 6 15] [0,1,5,6]
 (.block 0 (.loop [(0,false),(1,false),(5,false),(6,false)] (.seq (af [mv 16 6,mv 17 0,le 18 0 17,bt 19 .lss 16 18] [0,1,5,6,19]
 (.cond (.t 19) .skip
 (.exit 0)))
 (.seq (.block 1 (af [mv 22 0,mv 23 6,ia 24 jV 22 23,ld 25 1 24,mv 7 25] [0,1,5,6,7]
 (af [mv 26 1,mv 27 7,i1 28 (.cu (.t 26) [(.t 27)]),no 29 28] [0,1,5,6,7,29]
 (.cond (.t 29) (af [mv 30 0,mv 31 5,mv 32 7,ia 33 jV 30 31,st 1 33 32] [0,1,5,6]
 (.bN none [mv 34 5,bn 35 .add 34 1,mv 5 35] [0,1,5,6]))
 .skip))))
 (.bN none [mv 20 6,bn 21 .add 20 1,mv 6 21] [0,1,5,6]))))))
 (af [mv 36 0,mv 37 5,rj 38 1 36 37,i0 (.mo jV (.t 38))] [0,5]
 (af [mv 39 0,mv 40 5,PV 41 1 39 40,mv 4 41] [4]
 .ret))))))
theorem KJ:aE prog 154 42 [⟨4,true,none⟩] BW=true:=by kernel_rfl
theorem F3{T:Type}[aK T]{w:World}{R R':Nat->Nat}{b cap f:Nat}{l:List T}{vs:Array Value}(mono:∀a u,VR w R a u->VR w R' a u)(hv:∀u,VR w R (.arr b 0 l.length cap) u->VR w R' (sF 1 l) u)
 (ha:kH w R [.arr b 0 l.length cap,.fn f [] []] vs):kH w R' [sF 1 l,.fn f [] []] vs:=by
 refine⟨ha.1,fun j a v hj hvs=>?_⟩
 match j,hj with
 |0,hj=>cases hj;exact hv v (ha.2 0 _ v rfl hvs)
 |1,hj=>cases hj;exact mono _ _ (ha.2 1 _ v rfl hvs)
theorem xM{b cap:Nat}{l:List Int}{sp:List AV}{r:Int}{s:ab}{Q:List AV->ab->Prop}(hs:s b=some (.cells (flat l++sp)))(hn:l.length<=cap)(h:cL l=some r)(hq:Q [.int .i64 r] s):
 FN prog 196 [.arr b 0 l.length cap,.fn 156 [] []] s Q:=by
 refine FN.borrow b (l.length*1) (tv:=[sF 1 l,.fn 156 [] []]) (FE.app (jo h) ⟨rfl,hq⟩) fun G w vs hst ha=>?_
 refine F3 (fun a u h=>h.mono (fun i=>?_) fun _ _ _=>rfl) (fun u hu=>zY hst (al l) hn (aC l) (fun _=>⟨sp,hs⟩) hu (by decide)) ha
 show G.R i<=if i=b/\b<w.heap.size then l.length*1 else G.R i
 split
 ·rename_i e
  obtain⟨q2,q3,_⟩:=hst b _ hs
  rw[e.1,q3];exact Nat.zero_le _
 ·exact Nat.le_refl _
theorem UN{s:ab}{b:Nat}{o:SO}(h:s b=some o):s.set b o=s:=by
 funext c
 unfold ab.set
 split
 ·rename_i e;subst e;rw[h]
 ·rfl
def gone(x:Int):Bool:=(decide (x<1))||(decide (x>4096))
theorem Zg(x:Int)(s:ab):FE prog 156 [.int .i64 x] s [.bool (gone x)] s:=tW rfl
theorem QN{b cap i:Nat}{l:List Int}{sp:List AV}{s:ab}{Q:List AV->ab->Prop}(hs:s b=some (.cells (flat l++sp)))(hl:(flat l++sp).length=cap*1)(hn:l.length<=cap)(V9:(l.length:Int)<=9223372036854775807)
 (BT:cL l=some (i:Int))(hi:i<l.length)(hk:(l.take (i+1)).filter (fun x=>!gone x)=l.take i)
 (hq:∀sp',(flat (l.filter (fun x=>!gone x))++sp').length=cap*1->Q [.arr b 0 (l.filter (fun x=>!gone x)).length cap] (s.set b (.cells (flat (l.filter (fun x=>!gone x))++sp')))):
 FN prog 154 [.arr b 0 l.length cap,.fn 156 [] []] s Q:=by
 refine FO KJ rfl rfl ?_
 rw[BW]
 simp -implicitDefEqProofs only[go_sem,Nat.reduceBEq,Nat.reduceAdd,Nat.reduceMul,Nat.reduceLeDiff,Nat.reduceEqDiff,Nat.reduceBNe,UInt8.reduceToNat,UInt32.reduceToNat]
 refine xM hs hn BT ?_
 simp -implicitDefEqProofs only[go_sem,Nat.reduceBEq,Nat.reduceAdd,Nat.reduceMul,Nat.reduceLeDiff,Nat.reduceEqDiff,Nat.reduceBNe,UInt8.reduceToNat,UInt32.reduceToNat]
 have e1:(((i:Int))==-1)=false:=by rw[beq_eq_false_iff_ne];omega
 rw[e1]
 refine⟨fun h=>(by cases h),fun _=>?_⟩
 have w1:bj ((i:Int)+1)=((i+1:Nat):Int):=by rw[aI (by omega) (by omega)];omega
 rw[w1]
 refine⟨fun U=>∃(a j:Nat)(l':List Int),U=⟨[(0,.arr b 0 l.length cap),(1,.fn 156 [] []),(5,.int .i64 (a:Int)),(6,.int .i64 (j:Int))],[],s.set b (.cells (flat l'++sp))⟩/\l'.length=l.length/\a<j/\j<=l.length/\l'.take a=(l.take j).filter (fun x=>!gone x)/\l'.drop j=l.drop j/\a=((l.take j).filter (fun x=>!gone x)).length,
  fun U=>match look U.e 6 with|.int _ j=>l.length -j.toNat|_=>0,?_,?_⟩
 ·refine⟨i,i+1,l,?_,rfl,by omega,by omega,hk.symm,rfl,?_⟩
  ·rw[UN hs];rfl
  ·rw[hk];simp;omega
 ·rintro U ⟨a,j,l',rfl,h1,h2,h3,h4,h5,h6⟩
  have hlen:(flat l'++sp).length=cap*1:=by rw[<-hl,List.length_append,List.length_append,al,al,h1]
  simp -implicitDefEqProofs only[go_sem,Nat.reduceBEq,Nat.reduceAdd,Nat.reduceMul,Nat.reduceLeDiff,Nat.reduceEqDiff,Nat.reduceBNe,UInt8.reduceToNat,UInt32.reduceToNat,bP]
  refine⟨fun hj=>⟨⟨by omega,of_decide_eq_true hj⟩,?_⟩,fun hj=>⟨by omega,?_⟩⟩
  ·have hj:=of_decide_eq_true hj
   have hj':j<l.length:=by omega
   have hx:∃x,l.drop j=x::l.drop (j+1)/\(l.take (j+1)).filter (fun x=>!gone x)=(l.take j).filter (fun x=>!gone x)++(if gone x then[]else[x]):=by
    refine⟨l[j],List.drop_eq_getElem_cons hj',?_⟩
    rw[List.take_succ_eq_append_getElem hj',List.filter_append]
    cases hg:gone l[j]<;>simp[hg]
   obtain⟨x,hx1,hx2⟩:=hx
   have hd:decide (j*1+1<=(flat l').length+sp.length)=true:=decide_eq_true (by rw[al,h1];show j*1+1<=l.length*1+_;omega)
   have hv:views (AB.sub (flat l'++sp) (j*1) 1)=[.int .i64 x]:=by
    have:=gA l' sp 1 j 1 rfl (by omega)
    rw[Nat.one_mul]at this
    rw[this,h5,hx1];rfl
   rw[hd,hv]
   simp -implicitDefEqProofs only[go_sem,Nat.reduceBEq,Nat.reduceAdd,Nat.reduceMul,Nat.reduceLeDiff,Nat.reduceEqDiff,Nat.reduceBNe,UInt8.reduceToNat,UInt32.reduceToNat]
   refine⟨(by kernel_rfl),FE.app (Zg x _) ?_⟩
   have w2:bj ((j:Int)+1)=((j+1:Nat):Int):=by rw[aI (by omega) (by omega)];omega
   have w3:bj ((a:Int)+1)=((a+1:Nat):Int):=by rw[aI (by omega) (by omega)];omega
   simp -implicitDefEqProofs only[go_sem,Nat.reduceBEq,Nat.reduceAdd,Nat.reduceMul,Nat.reduceLeDiff,Nat.reduceEqDiff,Nat.reduceBNe,UInt8.reduceToNat,UInt32.reduceToNat,bP,w2,w3]
   have st:=gz l' [x] sp 1 a rfl (by simp;omega)
   have d1:l'.drop (j+1)=l.drop (j+1):=by rw[<-List.drop_drop,<-List.drop_drop,h5]
   have ht:(l'.take a++[x]).length=a+1:=by simp;omega
   refine⟨fun hg=>⟨⟨by omega,by omega⟩,by rw[al,h1];show a*1+1<=l.length*1+_;omega,⟨a+1,j+1,l'.take a++[x]++l'.drop (a+1),?_,?_,by omega,by omega,?_,?_,?_⟩,by omega⟩,
    fun hg=>⟨⟨a,j+1,l',rfl,h1,by omega,by omega,?_,d1,?_⟩,by omega⟩⟩
   ·rw[show setAt (flat l'++sp) (a*1) [AV.int .i64 x]=_ from st];rfl
   ·rw[List.length_append,ht,List.length_drop];omega
   ·rw[List.take_append_of_le_length (by omega),List.take_of_length_le (by omega),hx2,h4]
    have:gone x=false:=by cases h:gone x<;>simp_all
    simp[this]
   ·rw[List.drop_append,List.drop_of_length_le (by omega),List.nil_append,ht,List.drop_drop,show a+1+(j+1 -(a+1))=j+1 by omega,d1]
   ·have:gone x=false:=by cases h:gone x<;>simp_all
    rw[hx2,List.length_append,<-h6,this];rfl
   ·have:gone x=true:=by cases h:gone x<;>simp_all
    rw[h4,hx2,this];simp
   ·have:gone x=true:=by cases h:gone x<;>simp_all
    rw[hx2,this,h6];simp
  ·have hj:=of_decide_eq_false hj
   obtain rfl:j=l.length:=by omega
   rw[fB (by omega)]
   have hsp:(flat l'++sp).length=cap:=by omega
   refine yO rfl bP (by
    rw[hsp]
    show 0+a*1+(l.length -a)*1<=cap
    omega) ?_
   have hz:(List.replicate (l.length -a) [AV.int .i64 0]).flatten=flat (List.replicate (l.length -a) (0:Int)):=by rw[fX];rfl
   have st:=gz l' (List.replicate (l.length -a) (0:Int)) sp 1 a rfl (by simp;omega)
   have e3:l'.drop (a+(List.replicate (l.length -a) (0:Int)).length)=[]:=by rw[List.drop_eq_nil_iff];simp;omega
   rw[e3,List.append_nil,h4,List.take_length,bT,List.append_assoc]at st
   rw[List.take_length]at h6
   rw[Nat.zero_add,hz,st]
   generalize hF:l.filter (fun x=>!gone x)=F at hq h6
   have hq':=hq (flat (List.replicate (l.length -a) (0:Int))++sp) (by
    rw[List.length_append,List.length_append,al,al,List.length_replicate,<-h6]
    rw[List.length_append,al,h1]at hsp
    have q1:aK.w Int=1:=rfl
    rw[q1]at hsp⊢
    omega)
   rw[<-h6]at hq'
   generalize flat (List.replicate (l.length -a) (0:Int))++sp=sp' at hq'
   simp -implicitDefEqProofs only[go_sem,Nat.reduceBEq,Nat.reduceAdd,Nat.reduceMul,Nat.reduceLeDiff,Nat.reduceEqDiff,Nat.reduceBNe,UInt8.reduceToNat,UInt32.reduceToNat]
   exact⟨⟨by omega,by omega,by omega⟩,hq'⟩
theorem C3{b off n cap:Nat}{s:ab}{Q:List AV->ab->Prop}(hx:∀Q:List AV->ab->Prop,Q [.int .i64 (-1)] s->FN prog 196 [.arr b off n cap,.fn 156 [] []] s Q)(hq:Q [.arr b off n cap] s):
 FN prog 154 [.arr b off n cap,.fn 156 [] []] s Q:=by
 refine FO KJ rfl rfl ?_
 rw[BW]
 simp -implicitDefEqProofs only[go_sem,seval]
 refine hx _ ?_
 simp -implicitDefEqProofs only[go_sem,seval]
 exact⟨fun _=>hq,fun h=>(by cases h)⟩
theorem KA(l:List Int)(hb:l.length<4611686018427387904):
 cL l=some (match l.findIdx? gone with|some i=>(i:Int)|none=>-1):=by
 unfold cL
 have step:∀k(hk:k<l.length),jB (ix l (k:Int))=some (gone l[k]):=fun k hk=>by
  have e:ix l (k:Int)=l[k]:=kK (i:=(k:Int)) hk
  rw[e];rfl
 cases h:l.findIdx? gone with
 |none=>
  rw[List.findIdx?_eq_none_iff]at h
  refine fN (z:=.inl ()) (fm (z:=.inl ()) (eP l.length hb (fun k hk=>?_) ?_) rfl) rfl
  ·refine aU (decide_eq_true (by omega)) (az ⟨by omega,by omega⟩ (aB (step k hk) ?_))
   rw[h _ (List.getElem_mem hk)];rfl
  ·exact aF (by simp) rfl
 |some i=>
  rw[List.findIdx?_eq_some_iff_getElem]at h
  obtain⟨hi,h1,h2⟩:=h
  refine fN (z:=.inr (i:Int)) (fm (z:=.inr (i:Int)) (eP i (by omega) (fun k hk=>?_) ?_) rfl) rfl
  ·refine aU (decide_eq_true (by omega)) (az ⟨by omega,by omega⟩ (aB (step k (by omega)) ?_))
   have:=h2 k hk
   rw[Bool.not_eq_true]at this
   rw[this];rfl
  ·refine aU (decide_eq_true (by omega)) (az ⟨by omega,by omega⟩ (aB (step i hi) ?_))
   rw[h1];rfl
theorem FN.VN{P:Program}{f:FuncId}{args:List AV}{s s2:ab}{Q:List AV->ab->Prop}{sz:Nat}(hq:Q [.sl false sz 0 []] s2)(h:FN P f args s fun rs s'=>(∃b off,rs=[.arr b off 0 0])/\Sub s2 s'):FN P f args s Q:=by
 refine h.conv fun rs s'⟨⟨b,off,e⟩,eD⟩ G w v hg hs hr=>?_
 subst e
 refine⟨_,_,G,hq,mn.refl G,hg,hs.sub eD,?_⟩
 rcases VR.cd hr.1 with e|⟨_,_,e⟩
 ·exact⟨by rw[e];exact .sle sz _ _,trivial⟩
 ·exact⟨by rw[e];exact .slnil false sz,trivial⟩
theorem Vf{w:World}{R:Nat->Nat}{b off sz:Nat}{v:Value}(hv:VR w R (.arr b off 0 0) v):VR w R (.sl false sz 0 []) v:=by
 rcases VR.cd hv with e|⟨_,_,e⟩
 ·rw[e];exact .sle sz _ _
 ·rw[e];exact .slnil false sz
def kept(l:List Int):List Int:=l.filter fun x=>!gone x
theorem TS{l:List Int}{s:ab}{Q:List AV->ab->Prop}(hb:l.length*8<=room)(hq:∀o,Q [.sl o 1 (kept l).length (flat (kept l))] s){b cap:Nat}{sp:List AV}(h0:s b=none)(hc:0<cap)(hn:l.length<=cap)(hl:(flat l++sp).length=cap*1):
 FN prog 154 [.arr b 0 l.length cap,.fn 156 [] []] (s.set b (.cells (flat l++sp))) Q:=by
 have hb':l.length<4611686018427387904:=by unfold room at hb;omega
 have BT:=KA l hb'
 refine FN.HR (al (kept l)) (aC _) (hq true) ?_
 cases h:l.findIdx? gone with
 |none=>
  rw[h]at BT
  rw[List.findIdx?_eq_none_iff]at h
  have e:kept l=l:=List.filter_eq_self.2 fun x hx=>by rw[h x hx];rfl
  rw[e]
  refine C3 (fun Q hQ=>xM bP hn BT hQ) (.inl ⟨b,cap,sp,rfl,bP,hc,hn,hl,?_⟩)
  rw[j6 h0];exact Sub.refl s
 |some i=>
  rw[h]at BT
  rw[List.findIdx?_eq_some_iff_getElem]at h
  obtain⟨hi,h1,h2⟩:=h
  have hk0:(l.take i).filter (fun x=>!gone x)=l.take i:=List.filter_eq_self.2 fun x hx=>by
   obtain⟨j,hj,rfl⟩:=List.mem_iff_getElem.1 hx
   rw[List.length_take]at hj
   rw[List.getElem_take]
   have:=h2 j (by omega)
   rw[Bool.not_eq_true]at this
   rw[this];rfl
  refine QN bP hl hn (by omega) BT hi ?_ fun sp' hsp=>.inl ⟨b,cap,sp',rfl,bP,hc,?_,hsp,?_⟩
  ·rw[List.take_succ_eq_append_getElem hi,List.filter_append,hk0]
   simp[h1]
  ·exact Nat.le_trans (List.length_filter_le _ _) hn
  ·rw[set_set,j6 h0];exact Sub.refl s
theorem QO{s:ab}{Q:List AV->ab->Prop}(hq:∀o,Q [.sl o 1 0 []] s){b off:Nat}:
 FN prog 154 [.arr b off 0 0,.fn 156 [] []] s Q:=
 FN.VN (hq false) (C3 (fun Q hQ=>FN.args (FE.app (jo (s_0:=[]) (by rw[KA [] (by decide)];rfl)) hQ) fun G w vs _ ha=>⟨ha.1,fun j a v hj hvs=>by
  match j,hj with
  |0,hj=>cases hj;exact Vf (ha.2 0 _ v rfl hvs)
  |1,hj=>cases hj;exact ha.2 1 _ v rfl hvs⟩) ⟨⟨b,off,rfl⟩,Sub.refl s⟩)
def xX:IC:=
 (af [i1 1 (.dc 4 (.t 0)),i1 2 (.jL true (.c (.sl true 1 0 [])))] [1]
 (af [lm 3 4 1,c1 4 155 3,i1 5 (.uI 154 4 [(.t 4),(.c (.fn 156 [] []))]),mt 2 5] [2]
 .ret))
theorem Jd:aE prog 102 6 [⟨2,false,none⟩] xX=true:=by kernel_rfl
def fI(v_0:aa):Option (List Int):=aW (pZ v_0) fun l=>aG (l.length*8<=room)<|some (kept l)
theorem Kv{l:List Int}{x:AV}(h:x∈flat l):∃y,x=.int .i64 y:=by
 unfold flat at h
 rw[List.mem_flatten]at h
 obtain⟨c,hc,hx⟩:=h
 obtain⟨y,_,rfl⟩:=List.mem_map.1 hc
 exact⟨y,List.mem_singleton.1 hx⟩
theorem JH{v_0:aa}{s:ab}{Q:List AV->ab->Prop}(h:ok (fI v_0) fun r=>Q [sF 1 r] s):FN prog 102 [oV v_0] s Q:=by
 refine FO Jd rfl rfl ?_
 unfold fI at h
 rw[dF]at h
 obtain⟨l,hl,h⟩:=h
 rw[dB,aA]at h
 obtain⟨hr,hq⟩:=h
 rw[xX]
 simp -implicitDefEqProofs only[go_sem,seval]
 refine FN.adQ (List.all_eq_true.2 fun x hx=>?_) (fun x hx=>?_) (by decide) (J8 hl) ?_
 ·obtain⟨y,rfl⟩:=Kv hx;rfl
 ·obtain⟨y,hy⟩:=Kv (List.mem_of_getElem? hx)
  injection hy with h1;cases h1
 simp -implicitDefEqProofs only[go_sem,seval]
 refine⟨fun b cap sp h0 hc hn hlen _ _=>?_,fun h0 b off=>?_⟩
 ·simp -implicitDefEqProofs only[go_sem,seval,bP]
  refine TS hr (fun o=>?_) h0 hc hn hlen
  simp -implicitDefEqProofs only[go_sem,seval]
  exact hq
 ·have e:l=[]:=List.eq_nil_of_length_eq_zero h0
  subst e
  simp -implicitDefEqProofs only[go_sem,seval]
  refine QO (fun o=>?_)
  simp -implicitDefEqProofs only[go_sem,seval]
  exact hq
theorem qU{v_0:aa}{s:ab}{r:List Int}(h:fI v_0=some r):FE prog 102 [oV v_0] s [sF 1 r] s:=JH ⟨r,h,rfl,rfl⟩
def fy(v_0:aa)(mW:aa):Option ((List Int)):=
 aW (bS v_0 (aw.mk [80,97,114,101,110,116])) fun r1=>
 aW (fI r1) fun r2=>
 aW (cj (bI.mk ([]:List Int) []) r2) fun r3=>
 aW (fI mW) fun r4=>
 aW (cj r3 r4) fun r5=>
 some r5.l_
def vh:IC:=
 (af [i1 2 (.dc 4 (.t 0)),i1 3 (.dc 4 (.t 1)),i1 4 (.jL true (.c (.sl true 1 0 [])))] [2,3]
 (af [i1 6 (.makeMap),i1 7 (.build [.arr 0 0 0 0,.oL] [(1,1,(.t 6))]),i1 8 (.Fq 1 2 (.t 7)),mv 5 8] [2,3,5]
 (af [mv 9 5,lm 10 4 2,i1 11 (.call 53 [(.t 10),(.c (.str [80,97,114,101,110,116]))]),c1 12 102 11,c2 13 100 9 12] [3,5]
 (af [mv 14 5,lm 15 4 3,c1 16 102 15,c2 17 100 14 16] [5]
 (af [mv 18 5,nc 19 18,fa 20 0 19,i1 21 (.jh (.t 20)),mt 4 21] [4]
 .ret)))))
theorem Gz:aE prog 101 22 [⟨4,true,none⟩] vh=true:=by kernel_rfl
theorem Hx{v_0 mW}{s:ab}{Q:List AV->ab->Prop}:ok (fy v_0 mW) (fun r=>Q [sT 1 r] s)->FN prog 101 [oV v_0,oV mW] s Q:=by
 intro h
 refine FN.forget ?_
 refine FO Gz rfl rfl ?_
 revert h
 rw[vh,fy]
 repeat'(first
  |(with_reducible first|refine ak (fun _(h:bS v_0 (aw.mk [80,97,114,101,110,116])=some _)=>rf h) (fun r1=>?_)|refine ak (fun _(h:fI r1=some _)=>qU h) (fun r2=>?_)|refine fun hh=>gJ (B0:=N2) (B0_in_:=N1) (by simp -implicitDefEqProofs only[go_sem,seval,ai bU,ai bU.symm,set_comm bU.symm]<;>simp only[bH]) (by simp -implicitDefEqProofs only[go_sem,seval,ai bU,ai bU.symm,set_comm bU.symm]<;>simp only[bH]) bU (cI (show ok (cj (bI.mk ([]:List Int) []) r2) _ from hh) fun r3=>?_)|refine ak (fun _(h:fI mW=some _)=>qU h) (fun r4=>?_)|refine fun hh=>gJ (B0:=N2) (B0_in_:=N1) (by simp -implicitDefEqProofs only[go_sem,seval,ai bU,ai bU.symm,set_comm bU.symm]<;>simp only[bH]) (by simp -implicitDefEqProofs only[go_sem,seval,ai bU,ai bU.symm,set_comm bU.symm]<;>simp only[bH]) bU (cI (show ok (cj r3 r4) _ from hh) fun r5=>?_))
  |((fail_if_success (have _x:=sN1));with_reducible intro hh N1 hN1;(try simp only[cY]at hN1);have sN1:=hN1;revert hh)
  |(have _x:=sN1;clear _x;(fail_if_success (have _x:=sN2));with_reducible intro hh N2 hN2;(try simp only[cY]at hN2);obtain⟨bU,sN2⟩:=hN2;revert hh)
  |with_reducible exact fun hh=>⟨_,lx.set (lx.set (lx.refl _) (by simp[ab.set,sN1])) (by simp[ab.set,sN2]),hh⟩
  |simp -implicitDefEqProofs only[go_sem,seval,ai bU,ai bU.symm,set_comm bU.symm]
  |simp -implicitDefEqProofs only[go_sem,seval])
theorem Hw{v_0 mW}{s:ab}{r:(List Int)}(h:fy v_0 mW=some r):FE prog 101 [oV v_0,oV mW] s [sT 1 r] s:=Hx ⟨r,h,rfl,rfl⟩
end Go.AB
end
