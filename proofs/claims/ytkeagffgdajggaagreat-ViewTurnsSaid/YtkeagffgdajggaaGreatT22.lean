/- A part of the proof: Vt0. -/
import Derived.Test.YtkeagffgdajggaaGreatT14
import Derived.Test.YtkeagffgdajggaaGreatT20
import Derived.Test.YtkeagffgdajggaaGreatT21
import Derived.Test.YtkeagffgdajggaaGreatT17
import Derived.Test.YtkeagffgdajggaaGreatT16
import Derived.Test.YtkeagffgdajggaaGreatT12
set_option linter.unusedSimpArgs false
set_option linter.unusedVariables false
section
set_option maxRecDepth 4000
namespace Go.AB
open Go
attribute[-go_sem] bU cN bw bT Nat.add_zero lf bC
structure dh where
 A5:Int
 Path:(List Int)
 ar:aa
instance:aH dh:=⟨6,fun x=>[.int .i64 x.A5,.sl false 1 x.Path.length (flat x.Path),.int .i64 x.ar.Kind,.int .i64 x.ar.N,.str x.ar.S.b,.sl false 4 x.ar.L.length (flat x.ar.L)],(dh.mk 0 [] (aa.mk 0 0 (aA.mk []) [])),by decide,fun _=>rfl,fun _=>rfl⟩
structure bq where
 n_:Int
 v_:aa
 dj:(List Int)
 gP:Int
instance:aH bq:=⟨7,fun x=>[.int .i64 x.n_,.int .i64 x.v_.Kind,.int .i64 x.v_.N,.str x.v_.S.b,.sl false 4 x.v_.L.length (flat x.v_.L),.sl false 1 x.dj.length (flat x.dj),.int .i64 x.gP],(bq.mk 0 (aa.mk 0 0 (aA.mk []) []) [] 0),by decide,fun _=>rfl,fun _=>rfl⟩
def cQ(v_0:aa)(key_1:aA):Option (aa×Bool):=
 aP (dT v_0 key_1) fun r1=>
 if decide (r1<0)then
  some ((aa.mk 0 0 (aA.mk []) ([]:List aa)),false)
 else
  if(bz (r1+1))==(v_0.L.length:Int)then
   some ((aa.mk 0 0 (aA.mk []) ([]:List aa)),true)
  else
   aK (0≤bz (r1+1)∧bz (r1+1)<v_0.L.length)<|
   some (ix v_0.L (bz (r1+1)),true)
def Ae:IC:=
 (ae [i1 2 (.cW 4 (.t 0)),i1 4 (.aq gB),cV 5 (.bool false)] [1,2,4]
 (ae [lm 7 4 2,mv 8 1,c2 9 77 7 8,mv 6 9] [2,4,6]
 (.seq (.block 0 (ae [mv 11 6,bn 12 .lss 11 0,mv 10 12] [2,4,6,10]
 (.cond (.t 10) (ae [i1 13 (.build gB []),st 4 4 13,cV 5 (.bool false)] [4,5]
 .ret)
 (ae [mv 15 6,bn 16 .add 15 1,fa 17 3 2,ld 18 1 17,le 19 0 18,bt 20 .eql 16 19,mv 14 20] [2,4,6,14]
 (.cond (.t 14) (ae [i1 21 (.build gB []),st 4 4 21,cV 5 (.bool true)] [4,5]
 .ret)
 .skip)))))
 (ae [fa 22 3 2,ld 23 1 22,mv 24 6,bn 25 .add 24 1,ia 26 oG 23 25,lm 27 4 26,st 4 4 27,cV 5 (.bool true)] [4,5]
 .ret))))
def ye:List ay:=[⟨4,false,some (4,true)⟩,⟨5,true,none⟩]
theorem Lh:aC Go.Proofs.Tryz.prog 37 28 ye Ae=true:=by kernel_rfl
theorem Mi{v_0 key_1}{s:ab}{Q:List AV→ab→Prop}:ok (cQ v_0 key_1) (fun r=>Q [.agg [.int .i64 r.1.Kind,.int .i64 r.1.N,.str r.1.S.b,.sl false 4 r.1.L.length (flat r.1.L)],.bool r.2] s)→FN Go.Proofs.Tryz.prog 37 [.agg [.int .i64 v_0.Kind,.int .i64 v_0.N,.str v_0.S.b,.sl false 4 v_0.L.length (flat v_0.L)],.str key_1.b] s Q:=by
 intro h
 refine FN.of (af mix) Lh rfl (Nat.le_of_ble_eq_true rfl) ?_
 revert h
 rw[Ae,ye,cQ]
 repeat'(first
  |with_reducible refine ak (fun _(h:dT v_0 key_1=some _)=>lI h) (fun r1=>?_)
  |simp -implicitDefEqProofs only[go_sem,seval])
theorem eH{v_0 key_1}{s:ab}{r:aa×Bool}(h:cQ v_0 key_1=some r):FE Go.Proofs.Tryz.prog 37 [.agg [.int .i64 v_0.Kind,.int .i64 v_0.N,.str v_0.S.b,.sl false 4 v_0.L.length (flat v_0.L)],.str key_1.b] s [.agg [.int .i64 r.1.Kind,.int .i64 r.1.N,.str r.1.S.b,.sl false 4 r.1.L.length (flat r.1.L)],.bool r.2] s:=Mi ⟨r,h,rfl,rfl⟩
def gz(o_0:ag)(name_1:aA):Option (Bool):=
 aP (cQ o_0.V (aA.mk [84,121,112,101])) fun r1=>
 some (((!o_0.Stream)&&(r1.1.Kind==5))&&(r1.1.S.b==name_1.b))
def xC:IC:=
 (ae [i1 2 (.cW 6 (.t 0)),cV 4 (.bool false)] [1,2]
 (ae [fa 8 0 2,lm 9 4 8,i1 10 (.call 37 [(.t 9),(.c (.str [84,121,112,101]))]),iw 7 10,ex 11 7 0,ex 12 7 1,i1 5 (.aq gB),st 4 5 11,mv 6 12] [1,2,5]
 (ae [fa 13 4 2,ld 14 1 13,no 15 14,mv 16 15,fg 17 16 true 0 5,lg 18 16 true 1 17,jx 19 16 true .eql 18 5,pf 20 16 19,mv 21 20,fg 22 21 true 2 5,lg 23 21 true 1 22,c9 24 1 21 true,s6 25 21 true .eql 23 24,pf 26 21 25,mv 4 26] [4]
 .ret)))
def vx:List ay:=[⟨4,true,none⟩]
theorem HY:aC Go.Proofs.Tryz.prog 153 27 vx xC=true:=by kernel_rfl
theorem IV{o_0 name_1}{s:ab}{Q:List AV→ab→Prop}:ok (gz o_0 name_1) (fun r=>Q [.bool r] s)→FN Go.Proofs.Tryz.prog 153 [.agg [.int .i64 o_0.V.Kind,.int .i64 o_0.V.N,.str o_0.V.S.b,.sl false 4 o_0.V.L.length (flat o_0.V.L),.bool o_0.Stream,.str o_0.Data.b],.str name_1.b] s Q:=by
 intro h
 refine FN.of (af mix) HY rfl (Nat.le_of_ble_eq_true rfl) ?_
 revert h
 rw[xC,vx,gz]
 repeat'(first
  |with_reducible refine ak (fun _(h:cQ o_0.V (aA.mk [84,121,112,101])=some _)=>eH h) (fun r1=>?_)
  |simp -implicitDefEqProofs only[go_sem,seval])
theorem pG{o_0 name_1}{s:ab}{r:Bool}(h:gz o_0 name_1=some r):FE Go.Proofs.Tryz.prog 153 [.agg [.int .i64 o_0.V.Kind,.int .i64 o_0.V.N,.str o_0.V.S.b,.sl false 4 o_0.V.L.length (flat o_0.V.L),.bool o_0.Stream,.str o_0.Data.b],.str name_1.b] s [.bool r] s:=IV ⟨r,h,rfl,rfl⟩
def qU(o_0:ag):Option (Int×Bool):=
 aP (cQ o_0.V (aA.mk [80,97,103,101,115])) fun r1=>
 aP (gz o_0 (aA.mk [67,97,116,97,108,111,103])) fun r2=>
 if(!r2)||(r1.1.Kind !=8)then
  some (0,false)
 else
  some (r1.1.N,true)
def Ab:IC:=
 (ae [i1 1 (.cW 6 (.t 0)),mi 2 0,cV 3 (.bool false)] [1]
 (ae [fa 7 0 1,lm 8 4 7,i1 9 (.call 37 [(.t 8),(.c (.str [80,97,103,101,115]))]),iw 6 9,ex 10 6 0,ex 11 6 1,i1 4 (.aq gB),st 4 4 10,mv 5 11] [1,4]
 (.seq (ae [lm 12 6 1,i1 13 (.call 153 [(.t 12),(.c (.str [67,97,116,97,108,111,103]))]),no 14 13,mv 15 14,fg 16 15 false 0 4,lg 17 15 false 1 16,jx 18 15 false .neq 17 8,po 19 15 18] [4,19]
 (.cond (.t 19) (ae [mi 2 0,cV 3 (.bool false)] [2,3]
 .ret)
 .skip))
 (ae [fa 20 1 4,ld 21 1 20,mv 2 21,cV 3 (.bool true)] [2,3]
 .ret))))
def yb:List ay:=[⟨2,true,none⟩,⟨3,true,none⟩]
theorem Le:aC Go.Proofs.Tryz.prog 150 22 yb Ab=true:=by kernel_rfl
theorem Md{o_0}{s:ab}{Q:List AV→ab→Prop}:ok (qU o_0) (fun r=>Q [.int .i64 r.1,.bool r.2] s)→FN Go.Proofs.Tryz.prog 150 [.agg [.int .i64 o_0.V.Kind,.int .i64 o_0.V.N,.str o_0.V.S.b,.sl false 4 o_0.V.L.length (flat o_0.V.L),.bool o_0.Stream,.str o_0.Data.b]] s Q:=by
 intro h
 refine FN.of (af mix) Le rfl (Nat.le_of_ble_eq_true rfl) ?_
 revert h
 rw[Ab,yb,qU]
 repeat'(first
  |with_reducible refine ak (fun _(h:cQ o_0.V (aA.mk [80,97,103,101,115])=some _)=>eH h) (fun r1=>?_)
  |with_reducible refine ak (fun _(h:gz o_0 (aA.mk [67,97,116,97,108,111,103])=some _)=>pG h) (fun r2=>?_)
  |simp -implicitDefEqProofs only[go_sem,seval])
theorem Mc{o_0}{s:ab}{r:Int×Bool}(h:qU o_0=some r):FE Go.Proofs.Tryz.prog 150 [.agg [.int .i64 o_0.V.Kind,.int .i64 o_0.V.N,.str o_0.V.S.b,.sl false 4 o_0.V.L.length (flat o_0.V.L),.bool o_0.Stream,.str o_0.Data.b]] s [.int .i64 r.1,.bool r.2] s:=Md ⟨r,h,rfl,rfl⟩
def ir(n_0:Int)(o_1:ag):Option (bq×Bool):=
 aP (cQ o_1.V (aA.mk [75,105,100,115])) fun r1=>
 aP (cQ o_1.V (aA.mk [67,111,117,110,116])) fun r2=>
 aP (gz o_1 (aA.mk [80,97,103,101,115])) fun r3=>
 if(((!r3)||(r1.1.Kind !=6))||((r1.1.L.length:Int)==0))||(r2.1.Kind !=2)then
  some ((bq.mk n_0 o_1.V ([]:List Int) 0),false)
 else
  Hg (
   mO (
    iter (fun((x9,t10):bq×Int)=>
     if decide (t10<(r1.1.L.length:Int))then
      aK (0≤t10∧t10<r1.1.L.length)<|
      if((ix r1.1.L t10).Kind)!=8 then
       some (.inr (.inr (x9,false)))
      else
       aK ((x9.dj.length+[(ix r1.1.L t10).N].length)*8≤room)<|
       some (.inl ((bq.mk x9.n_ x9.v_ (x9.dj++[(ix r1.1.L t10).N]) x9.gP),bz (t10+1)))
     else
      some (.inr (.inl x9))) ((bq.mk n_0 o_1.V ([]:List Int) 0),0)) (fun(x12:bq)=>
    some (.inl x12))
   (fun((t14,t15):bq×Bool)=>some (.inr (t14,t15)))) (fun(x5:bq)=>
   some ((bq.mk x5.n_ x5.v_ x5.dj r2.1.N),(decide (r2.1.N≥(x5.dj.length:Int)))&&(decide (r2.1.N≤2048))))
  (fun((t7,t8):bq×Bool)=>some (t7,t8))
def ue:IC:=
 (ae [i1 3 (.cW 6 (.t 1)),i1 4 (.aq [.int .i64 0,.int .i64 0,.int .i64 0,.str [],.sl true 4 0 [],.sl true 1 0 [],.int .i64 0]),cV 5 (.bool false)] [0,3,4]
 (ae [mv 13 0,fa 14 0 3,lm 15 4 14,i1 16 (.build [.int .i64 0,.int .i64 0,.int .i64 0,.str [],.sl true 4 0 [],.arr 0 0 0 0,.int .i64 0] [(0,1,(.t 13)),(1,4,(.t 15))]),i1 6 (.aq [.int .i64 0,.int .i64 0,.int .i64 0,.str [],.sl true 4 0 [],.sl true 1 0 [],.int .i64 0]),i0 (.pD 1 7 (.t 6) (.t 16))] [3,4,6]
 (ae [fa 18 0 3,lm 19 4 18,i1 20 (.call 37 [(.t 19),(.c (.str [75,105,100,115]))]),iw 17 20,ex 21 17 0,ex 22 17 1,i1 7 (.aq gB),st 4 7 21,mv 8 22] [3,4,6,7]
 (ae [fa 24 0 3,lm 25 4 24,i1 26 (.call 37 [(.t 25),(.c (.str [67,111,117,110,116]))]),iw 23 26,ex 27 23 0,ex 28 23 1,i1 9 (.aq gB),st 4 9 27,mv 10 28] [3,4,6,7,9]
 (.seq (ae [lm 29 6 3,i1 30 (.call 153 [(.t 29),(.c (.str [80,97,103,101,115]))]),no 31 30,mv 32 31,fg 33 32 false 0 7,lg 34 32 false 1 33,jx 35 32 false .neq 34 6,po 36 32 35,mv 37 36,fg 38 37 false 3 7,lg 39 37 false 1 38,cS 40 37 false (.len 0 (.t 39)),jx 41 37 false .eql 40 0,po 42 37 41,mv 43 42,fg 44 43 false 0 9,lg 45 43 false 1 44,jx 46 43 false .neq 45 2,po 47 43 46] [4,6,7,9,47]
 (.cond (.t 47) (ae [lm 48 7 6,st 7 4 48,cV 5 (.bool false)] [4,5]
 .ret)
 .skip))
 (.join [(4,false),(6,false),(9,false)] (ae [fa 49 3 7,ld 50 1 49,le 51 0 50,mi 52 0] [4,6,9,50,51,52]
 (.block 0 (.loop [(4,false),(6,false),(9,false),(50,true),(51,false),(52,false)] (ae [bt 53 .lss 52 51] [4,6,9,50,51,52,53]
 (.seq (.cond (.t 53) .skip
 (.exit 0))
 (.seq (.block 1 (ae [ia 54 oG 50 52,lm 55 4 54,i1 12 (.aq gB),st 4 12 55] [4,6,9,12,50,51,52]
 (.seq (ae [fa 56 0 12,ld 57 1 56,bn 58 .neq 57 8] [4,6,9,12,50,51,52,58]
 (.cond (.t 58) (ae [lm 59 7 6,st 7 4 59,cV 5 (.bool false)] [4,5]
 .ret)
 .skip))
 (.bD none [fa 60 5 6,i1 61 (.gW (.t 60)),fa 62 1 12,ld 63 1 62,i1 64 (.aY 1 1 lZ [(0,1,(.t 63))]),Q4 65 1 8 61 64,fa 66 5 6,st 1 66 65] [4,6,9,50,51,52]))))
 (.bD none [bn 67 .add 52 1,mv 52 67] [4,6,9,50,51,52])))))))
 (ae [fa 68 1 9,ld 69 1 68,fa 70 6 6,st 1 70 69] [4,6]
 (.seq (.wY [4] 14 [lm 71 7 6,fa 72 6 6,ld 73 1 72,fa 74 5 6,ld 75 1 74,le 76 0 75,bt 77 .geq 73 76,mv 78 77,fg 79 78 true 6 6,lg 80 78 true 1 79,jx 81 78 true .leq 80 2048,pf 82 78 81,st 7 4 71,mv 5 82] [4,5])
 .ret))))))))
def sP:List ay:=[⟨4,false,some (7,true)⟩,⟨5,true,none⟩]
theorem FG:aC Go.Proofs.Tryz.prog 98 83 sP ue=true:=by kernel_rfl
theorem GZ{n_0 o_1}{s:ab}{Q:List AV→ab→Prop}:ok (ir n_0 o_1) (fun r=>Q [.agg [.int .i64 r.1.n_,.int .i64 r.1.v_.Kind,.int .i64 r.1.v_.N,.str r.1.v_.S.b,.sl false 4 r.1.v_.L.length (flat r.1.v_.L),.sl false 1 r.1.dj.length (flat r.1.dj),.int .i64 r.1.gP],.bool r.2] s)→FN Go.Proofs.Tryz.prog 98 [.int .i64 n_0,.agg [.int .i64 o_1.V.Kind,.int .i64 o_1.V.N,.str o_1.V.S.b,.sl false 4 o_1.V.L.length (flat o_1.V.L),.bool o_1.Stream,.str o_1.Data.b]] s Q:=by
 intro h
 refine FN.of (af mix) FG rfl (Nat.le_of_ble_eq_true rfl) ?_
 revert h
 rw[ue,sP,ir]
 repeat'(first
  |with_reducible exact cF
  |with_reducible refine bj ?_ ?_
  |with_reducible refine cJ ?_
  |with_reducible refine ak (fun _(h:cQ o_1.V (aA.mk [75,105,100,115])=some _)=>eH h) (fun r1=>?_)
  |with_reducible refine ak (fun _(h:cQ o_1.V (aA.mk [67,111,117,110,116])=some _)=>eH h) (fun r2=>?_)
  |with_reducible refine ak (fun _(h:gz o_1 (aA.mk [80,97,103,101,115])=some _)=>pG h) (fun r3=>?_)
  |((with_reducible refine bf (fun((x9,t10):bq×Int)=>⟨[(4,.loc [.int .i64 0,.int .i64 0,.int .i64 0,.str (aA.mk []).b,.sl true 4 0 [],.sl true 1 0 [],.int .i64 0]),(6,.loc [.int .i64 x9.n_,.int .i64 x9.v_.Kind,.int .i64 x9.v_.N,.str x9.v_.S.b,.sl false 4 x9.v_.L.length (flat x9.v_.L),.sl true 1 x9.dj.length (flat x9.dj),.int .i64 x9.gP]),(9,.loc [.int .i64 r2.1.Kind,.int .i64 r2.1.N,.str r2.1.S.b,.sl false 4 r2.1.L.length (flat r2.1.L)]),(50,.sl false 4 r1.1.L.length (flat r1.1.L)),(51,.int .i64 (r1.1.L.length:Int)),(52,.int .i64 t10)],[],s⟩) ?_ ?_);(first|exact rfl|simp -implicitDefEqProofs only[go_sem,seval]);rintro J ⟨x9,t10⟩)
  |((with_reducible refine dY (fun(x5:bq)=>⟨[(4,.loc [.int .i64 0,.int .i64 0,.int .i64 0,.str (aA.mk []).b,.sl true 4 0 [],.sl true 1 0 [],.int .i64 0]),(6,.loc [.int .i64 x5.n_,.int .i64 x5.v_.Kind,.int .i64 x5.v_.N,.str x5.v_.S.b,.sl false 4 x5.v_.L.length (flat x5.v_.L),.sl true 1 x5.dj.length (flat x5.dj),.int .i64 x5.gP]),(9,.loc [.int .i64 r2.1.Kind,.int .i64 r2.1.N,.str r2.1.S.b,.sl false 4 r2.1.L.length (flat r2.1.L)])],[],s⟩) (fun J=>?_) ?_);rotate_left;rintro x5)
  |simp -implicitDefEqProofs only[go_sem,seval])
theorem vO{n_0 o_1}{s:ab}{r:bq×Bool}(h:ir n_0 o_1=some r):FE Go.Proofs.Tryz.prog 98 [.int .i64 n_0,.agg [.int .i64 o_1.V.Kind,.int .i64 o_1.V.N,.str o_1.V.S.b,.sl false 4 o_1.V.L.length (flat o_1.V.L),.bool o_1.Stream,.str o_1.Data.b]] s [.agg [.int .i64 r.1.n_,.int .i64 r.1.v_.Kind,.int .i64 r.1.v_.N,.str r.1.v_.S.b,.sl false 4 r.1.v_.L.length (flat r.1.v_.L),.sl false 1 r.1.dj.length (flat r.1.dj),.int .i64 r.1.gP],.bool r.2] s:=GZ ⟨r,h,rfl,rfl⟩
def n9(f_0:pK)(n_1:Int):Option (bq×Int×Int):=
 aP (iA f_0 n_1) fun r1=>
 if r1.2.2 !=0 then
  some ((bq.mk 0 (aa.mk 0 0 (aA.mk []) ([]:List aa)) ([]:List Int) 0),r1.2.1,r1.2.2)
 else
  aP (ir n_1 r1.1) fun r2=>
  if !r2.2 then
   some ((bq.mk 0 (aa.mk 0 0 (aA.mk []) ([]:List aa)) ([]:List Int) 0),0,24)
  else
   some (r2.1,0,0)
def CK:IC:=
 (ae [i1 4 (.aq [.int .i64 0,.int .i64 0,.int .i64 0,.str [],.sl true 4 0 [],.sl true 1 0 [],.int .i64 0]),mi 5 0,mi 6 0] [0,1,4]
 (ae [mv 13 0,mv 14 1,c2 15 95 13 14,iw 12 15,ex 16 12 0,ex 17 12 1,ex 18 12 2,i1 7 (.aq xM),st 6 7 16,mv 8 17,mv 9 18] [1,4,7,8,9]
 (.seq (ae [mv 19 9,bn 20 .neq 19 0] [1,4,7,8,9,20]
 (.cond (.t 20) (ae [i1 21 (.build [.int .i64 0,.int .i64 0,.int .i64 0,.str [],.sl true 4 0 [],.sl true 1 0 [],.int .i64 0] []),mv 22 8,mv 23 9,st 7 4 21,mv 5 22,mv 6 23] [4,5,6]
 .ret)
 .skip))
 (ae [mv 25 1,lm 26 6 7,c2 27 98 25 26,iw 24 27,ex 28 24 0,ex 29 24 1,i1 10 (.aq [.int .i64 0,.int .i64 0,.int .i64 0,.str [],.sl true 4 0 [],.sl true 1 0 [],.int .i64 0]),st 7 10 28,mv 11 29] [4,10,11]
 (.seq (ae [mv 30 11,no 31 30] [4,10,31]
 (.cond (.t 31) (ae [i1 32 (.build [.int .i64 0,.int .i64 0,.int .i64 0,.str [],.sl true 4 0 [],.sl true 1 0 [],.int .i64 0] []),st 7 4 32,mi 5 0,mi 6 24] [4,5,6]
 .ret)
 .skip))
 (ae [lm 33 7 10,st 7 4 33,mi 5 0,mi 6 0] [4,5,6]
 .ret))))))
def AM:List ay:=[⟨4,false,some (7,true)⟩,⟨5,true,none⟩,⟨6,true,none⟩]
theorem Nx:aC Go.Proofs.Tryz.prog 99 34 AM CK=true:=by kernel_rfl
theorem Ot{f_0 n_1}{s:ab}{Q:List AV→ab→Prop}(va0:c6 s f_0):ok (n9 f_0 n_1) (fun r=>Q [.agg [.int .i64 r.1.n_,.int .i64 r.1.v_.Kind,.int .i64 r.1.v_.N,.str r.1.v_.S.b,.sl false 4 r.1.v_.L.length (flat r.1.v_.L),.sl false 1 r.1.dj.length (flat r.1.dj),.int .i64 r.1.gP],.int .i64 r.2.1,.int .i64 r.2.2] s)→FN Go.Proofs.Tryz.prog 99 [.ref f_0.B 0,.int .i64 n_1] s Q:=by
 intro h
 refine FN.of (af mix) Nx rfl (Nat.le_of_ble_eq_true rfl) ?_
 revert h
 rw[CK,AM,n9]
 repeat'(first
  |with_reducible exact cF
  |with_reducible refine bj ?_ ?_
  |with_reducible refine cJ ?_
  |with_reducible refine ak (fun _(h:iA f_0 n_1=some _)=>mM (c6.mono (by assumption) (by repeat'(first|exact Sub.refl _|refine Sub.set ?_ ?_|assumption|(simp[ab.set, *];done)))) h) (fun r1=>?_)
  |with_reducible refine ak (fun _(h:ir n_1 r1.1=some _)=>vO h) (fun r2=>?_)
  |simp -implicitDefEqProofs only[go_sem,seval])
theorem C7{f_0 n_1}{s:ab}{r:bq×Int×Int}(va0:c6 s f_0)(h:n9 f_0 n_1=some r):FE Go.Proofs.Tryz.prog 99 [.ref f_0.B 0,.int .i64 n_1] s [.agg [.int .i64 r.1.n_,.int .i64 r.1.v_.Kind,.int .i64 r.1.v_.N,.str r.1.v_.S.b,.sl false 4 r.1.v_.L.length (flat r.1.v_.L),.sl false 1 r.1.dj.length (flat r.1.dj),.int .i64 r.1.gP],.int .i64 r.2.1,.int .i64 r.2.2] s:=Ot va0 ⟨r,h,rfl,rfl⟩
def vP(f_0:pK):Option (bq×Int×Int):=
 aP (yn f_0) fun r1=>
 aP (iA f_0 r1) fun r2=>
 if r2.2.2 !=0 then
  some ((bq.mk 0 (aa.mk 0 0 (aA.mk []) ([]:List aa)) ([]:List Int) 0),r2.2.1,r2.2.2)
 else
  aP (qU r2.1) fun r3=>
  if !r3.2 then
   some ((bq.mk 0 (aa.mk 0 0 (aA.mk []) ([]:List aa)) ([]:List Int) 0),0,23)
  else
   aP (n9 f_0 r3.1) fun r4=>
   some (r4.1,r4.2.1,r4.2.2)
def CL:IC:=
 (ae [i1 2 (.aq [.int .i64 0,.int .i64 0,.int .i64 0,.str [],.sl true 4 0 [],.sl true 1 0 [],.int .i64 0]),mi 3 0,mi 4 0] [0,2]
 (ae [mv 11 0,mv 12 0,c1 13 149 12,c2 14 95 11 13,iw 10 14,ex 15 10 0,ex 16 10 1,ex 17 10 2,i1 5 (.aq xM),st 6 5 15,mv 6 16,mv 7 17] [0,2,5,6,7]
 (.seq (ae [mv 18 7,bn 19 .neq 18 0] [0,2,5,6,7,19]
 (.cond (.t 19) (ae [i1 20 (.build [.int .i64 0,.int .i64 0,.int .i64 0,.str [],.sl true 4 0 [],.sl true 1 0 [],.int .i64 0] []),mv 21 6,mv 22 7,st 7 2 20,mv 3 21,mv 4 22] [2,3,4]
 .ret)
 .skip))
 (ae [lm 24 6 5,c1 25 150 24,iw 23 25,ex 26 23 0,ex 27 23 1,mv 8 26,mv 9 27] [0,2,8,9]
 (.seq (ae [mv 28 9,no 29 28] [0,2,8,29]
 (.cond (.t 29) (ae [i1 30 (.build [.int .i64 0,.int .i64 0,.int .i64 0,.str [],.sl true 4 0 [],.sl true 1 0 [],.int .i64 0] []),st 7 2 30,mi 3 0,mi 4 23] [2,3,4]
 .ret)
 .skip))
 (ae [mv 31 0,mv 32 8,c2 33 99 31 32,ex 34 33 0,ex 35 33 1,ex 36 33 2,st 7 2 34,mv 3 35,mv 4 36] [2,3,4]
 .ret))))))
def AN:List ay:=[⟨2,false,some (7,true)⟩,⟨3,true,none⟩,⟨4,true,none⟩]
theorem Ny:aC Go.Proofs.Tryz.prog 93 37 AN CL=true:=by kernel_rfl
theorem Ov{f_0}{s:ab}{Q:List AV→ab→Prop}(va0:c6 s f_0):ok (vP f_0) (fun r=>Q [.agg [.int .i64 r.1.n_,.int .i64 r.1.v_.Kind,.int .i64 r.1.v_.N,.str r.1.v_.S.b,.sl false 4 r.1.v_.L.length (flat r.1.v_.L),.sl false 1 r.1.dj.length (flat r.1.dj),.int .i64 r.1.gP],.int .i64 r.2.1,.int .i64 r.2.2] s)→FN Go.Proofs.Tryz.prog 93 [.ref f_0.B 0] s Q:=by
 intro h
 refine FN.of (af mix) Ny rfl (Nat.le_of_ble_eq_true rfl) ?_
 revert h
 rw[CL,AN,vP]
 repeat'(first
  |with_reducible exact cF
  |with_reducible refine bj ?_ ?_
  |with_reducible refine cJ ?_
  |with_reducible refine ak (fun _(h:yn f_0=some _)=>Hj (c6.mono (by assumption) (by repeat'(first|exact Sub.refl _|refine Sub.set ?_ ?_|assumption|(simp[ab.set, *];done)))) h) (fun r1=>?_)
  |with_reducible refine ak (fun _(h:iA f_0 r1=some _)=>mM (c6.mono (by assumption) (by repeat'(first|exact Sub.refl _|refine Sub.set ?_ ?_|assumption|(simp[ab.set, *];done)))) h) (fun r2=>?_)
  |with_reducible refine ak (fun _(h:qU r2.1=some _)=>Mc h) (fun r3=>?_)
  |with_reducible refine ak (fun _(h:n9 f_0 r3.1=some _)=>C7 (c6.mono (by assumption) (by repeat'(first|exact Sub.refl _|refine Sub.set ?_ ?_|assumption|(simp[ab.set, *];done)))) h) (fun r4=>?_)
  |simp -implicitDefEqProofs only[go_sem,seval])
theorem Ou{f_0}{s:ab}{r:bq×Int×Int}(va0:c6 s f_0)(h:vP f_0=some r):FE Go.Proofs.Tryz.prog 93 [.ref f_0.B 0] s [.agg [.int .i64 r.1.n_,.int .i64 r.1.v_.Kind,.int .i64 r.1.v_.N,.str r.1.v_.S.b,.sl false 4 r.1.v_.L.length (flat r.1.v_.L),.sl false 1 r.1.dj.length (flat r.1.dj),.int .i64 r.1.gP],.int .i64 r.2.1,.int .i64 r.2.2] s:=Ov va0 ⟨r,h,rfl,rfl⟩
def dF(l_0:(List aa)):Option (aa):=
 jn (
  iter (fun((v3,i4):aa×Int)=>
   if decide (bz (i4+1)<(l_0.length:Int))then
    aK (0≤i4∧i4<l_0.length)<|
    aK (0≤bz (i4+1)∧bz (i4+1)<l_0.length)<|
    aP (lB v3 ((ix l_0 i4).S) (ix l_0 (bz (i4+1)))) fun r7=>
    some (.inl (r7,bz (i4+2)))
   else
    some (.inr v3)) ((aa.mk 7 0 (aA.mk []) ([]:List aa)),0)) fun(v2:aa)=>
 some v2
def sk:IC:=
 (ae [i1 2 (.aq gB)] [0,2]
 (ae [i1 5 (.build gB [(0,1,(.c (.int .i64 7)))]),i1 3 (.aq gB),st 4 3 5] [0,2,3]
 (.join [(2,false),(3,false)] (ae [mi 4 0] [0,2,3,4]
 (.block 0 (.loop [(0,true),(2,false),(3,false),(4,false)] (.seq (ae [mv 6 4,bn 7 .add 6 1,mv 8 0,le 9 0 8,bt 10 .lss 7 9] [0,2,3,4,10]
 (.cond (.t 10) .skip
 (.exit 0)))
 (.seq (.block 1 (.bD (some 12) [lm 13 4 3,mv 14 0,mv 15 4,ia 16 oG 14 15,fa 17 2 16,ld 18 1 17,mv 19 0,mv 20 4,bn 21 .add 20 1,ia 22 oG 19 21,lm 23 4 22,c3 24 140 13 18 23,st 4 3 24] [0,2,3,4]))
 (.bD none [mv 11 4,bn 12 .add 11 2,mv 4 12] [0,2,3,4]))))))
 (ae [lm 25 4 3,st 4 2 25] [2]
 .ret))))
def qM:List ay:=[⟨2,false,some (4,true)⟩]
theorem Dx:aC Go.Proofs.Tryz.prog 86 26 qM sk=true:=by kernel_rfl
theorem DT{l_0}{s:ab}{Q:List AV→ab→Prop}:ok (dF l_0) (fun r=>Q [.agg [.int .i64 r.Kind,.int .i64 r.N,.str r.S.b,.sl false 4 r.L.length (flat r.L)]] s)→FN Go.Proofs.Tryz.prog 86 [.sl false 4 l_0.length (flat l_0)] s Q:=by
 intro h
 refine FN.of (af mix) Dx rfl (Nat.le_of_ble_eq_true rfl) ?_
 revert h
 rw[sk,qM,dF]
 repeat'(first
  |with_reducible exact cF
  |with_reducible refine bj ?_ ?_
  |with_reducible refine cJ ?_
  |with_reducible refine bH (fun _(h:lB v3 ((ix l_0 i4).S) (ix l_0 (bz (i4+1)))=some _)=>AZ h) (fun _=>rfl) (fun r7=>?_)
  |((with_reducible refine bf (fun((v3,i4):aa×Int)=>⟨[(0,.sl false 4 l_0.length (flat l_0)),(2,.loc [.int .i64 0,.int .i64 0,.str (aA.mk []).b,.sl true 4 0 []]),(3,.loc [.int .i64 v3.Kind,.int .i64 v3.N,.str v3.S.b,.sl false 4 v3.L.length (flat v3.L)]),(4,.int .i64 i4)],[],s⟩) ?_ ?_);(first|exact rfl|simp -implicitDefEqProofs only[go_sem,seval]);rintro J ⟨v3,i4⟩)
  |((with_reducible refine cH (fun(v2:aa)=>⟨[(2,.loc [.int .i64 0,.int .i64 0,.str (aA.mk []).b,.sl true 4 0 []]),(3,.loc [.int .i64 v2.Kind,.int .i64 v2.N,.str v2.S.b,.sl false 4 v2.L.length (flat v2.L)])],[],s⟩) (fun J=>?_) ?_);rotate_left;rintro v2)
  |simp -implicitDefEqProofs only[go_sem,seval])
theorem jd{l_0}{s:ab}{r:aa}(h:dF l_0=some r):FE Go.Proofs.Tryz.prog 86 [.sl false 4 l_0.length (flat l_0)] s [.agg [.int .i64 r.Kind,.int .i64 r.N,.str r.S.b,.sl false 4 r.L.length (flat r.L)]] s:=DT ⟨r,h,rfl,rfl⟩
def eT:Option ((List aA)):=some [(aA.mk [82,101,115,111,117,114,99,101,115]),(aA.mk [77,101,100,105,97,66,111,120]),(aA.mk [67,114,111,112,66,111,120]),(aA.mk [82,111,116,97,116,101])]
def ox:IC:=
 (ae [i1 0 (.iR true (.c (.sl true 1 0 [])))] []
 (ae [i1 1 (.aY 1 4 [.str [],.str [],.str [],.str []] [(0,1,(.c (.str [82,101,115,111,117,114,99,101,115]))),(1,1,(.c (.str [77,101,100,105,97,66,111,120]))),(2,1,(.c (.str [67,114,111,112,66,111,120]))),(3,1,(.c (.str [82,111,116,97,116,101])))]),mt 0 1] [0]
 .ret))
def nY:List ay:=[⟨0,true,none⟩]
theorem Am:aC Go.Proofs.Tryz.prog 151 2 nY ox=true:=by kernel_rfl
theorem AW{s:ab}{Q:List AV→ab→Prop}:ok (eT) (fun r=>Q [.sl true 1 r.length (flat r)] s)→FN Go.Proofs.Tryz.prog 151 [] s Q:=by
 intro h
 refine FN.of (af mix) Am rfl (Nat.le_of_ble_eq_true rfl) ?_
 revert h
 rw[ox,nY,eT]
 repeat'(first
  |simp -implicitDefEqProofs only[go_sem,seval])
theorem o4{s:ab}{r:(List aA)}(h:eT=some r):FE Go.Proofs.Tryz.prog 151 [] s [.sl true 1 r.length (flat r)] s:=AW ⟨r,h,rfl,rfl⟩
def qV(given_0:aa)(v_1:aa):Option (aa):=
 jn (
  aP (eT) fun r3=>
  iter (fun((given4,t5):aa×Int)=>
   if decide (t5<(r3.length:Int))then
    jn (
     aK (0≤t5∧t5<r3.length)<|
     aP (cQ v_1 (ix r3 t5)) fun r14=>
     if r14.2 then
      aP (lB given4 (ix r3 t5) r14.1) fun r15=>
      some r15
     else
      some given4) fun(given8:aa)=>
    some (.inl (given8,bz (t5+1)))
   else
    some (.inr given4)) (given_0,0)) fun(given1:aa)=>
 some given1
def Ac:IC:=
 (ae [i1 2 (.cW 4 (.t 0)),i1 3 (.cW 4 (.t 1)),i1 4 (.aq gB)] [2,3,4]
 (.join [(2,false),(4,false)] (ae [i1 9 (.call 151 []),le 10 0 9,mi 11 0] [2,3,4,9,10,11]
 (.block 0 (.loop [(2,false),(3,false),(4,false),(9,false),(10,false),(11,false)] (ae [bt 12 .lss 11 10] [2,3,4,9,10,11,12]
 (.seq (.cond (.t 12) .skip
 (.exit 0))
 (.join [(2,false),(3,false),(4,false),(9,false),(10,false),(11,false)] (.block 1 (ae [ia 13 [.str []] 9 11,ld 14 1 13,mv 6 14] [2,3,4,6,9,10,11]
 (ae [lm 16 4 3,mv 17 6,c2 18 37 16 17,iw 15 18,ex 19 15 0,ex 20 15 1,i1 7 (.aq gB),st 4 7 19,mv 8 20] [2,3,4,6,7,8,9,10,11]
 (ae [mv 21 8] [2,3,4,6,7,9,10,11,21]
 (.cond (.t 21) (.bD none [lm 22 4 2,mv 23 6,lm 24 4 7,c3 25 140 22 23 24,st 4 2 25] [2,3,4,9,10,11])
 .skip)))))
 (.bD none [bn 26 .add 11 1,mv 11 26] [2,3,4,9,10,11])))))))
 (ae [lm 27 4 2,st 4 4 27] [4]
 .ret)))
def yc:List ay:=[⟨4,false,some (4,true)⟩]
theorem Lf:aC Go.Proofs.Tryz.prog 94 28 yc Ac=true:=by kernel_rfl
theorem Mf{given_0 v_1}{s:ab}{Q:List AV→ab→Prop}:ok (qV given_0 v_1) (fun r=>Q [.agg [.int .i64 r.Kind,.int .i64 r.N,.str r.S.b,.sl false 4 r.L.length (flat r.L)]] s)→FN Go.Proofs.Tryz.prog 94 [.agg [.int .i64 given_0.Kind,.int .i64 given_0.N,.str given_0.S.b,.sl false 4 given_0.L.length (flat given_0.L)],.agg [.int .i64 v_1.Kind,.int .i64 v_1.N,.str v_1.S.b,.sl false 4 v_1.L.length (flat v_1.L)]] s Q:=by
 intro h
 refine FN.of (af mix) Lf rfl (Nat.le_of_ble_eq_true rfl) ?_
 revert h
 rw[Ac,yc,qV]
 repeat'(first
  |with_reducible exact cF
  |with_reducible refine bj ?_ ?_
  |with_reducible refine cJ ?_
  |with_reducible refine ak (fun _(h:eT=some _)=>o4 h) (fun r3=>?_)
  |with_reducible refine ak (fun _(h:cQ v_1 (ix r3 t5)=some _)=>eH h) (fun r14=>?_)
  |with_reducible refine ak (fun _(h:lB given4 (ix r3 t5) r14.1=some _)=>AZ h) (fun r15=>?_)
  |((with_reducible refine cH (live:=[(2,false),(3,false),(4,false),(9,false),(10,false),(11,false)]) (fun(given8:aa)=>⟨[(2,.loc [.int .i64 given8.Kind,.int .i64 given8.N,.str given8.S.b,.sl false 4 given8.L.length (flat given8.L)]),(3,.loc [.int .i64 v_1.Kind,.int .i64 v_1.N,.str v_1.S.b,.sl false 4 v_1.L.length (flat v_1.L)]),(4,.loc [.int .i64 0,.int .i64 0,.str (aA.mk []).b,.sl true 4 0 []]),(9,.sl true 1 r3.length (flat r3)),(10,.int .i64 (r3.length:Int)),(11,.int .i64 t5)],[],s⟩) (fun J=>?_) ?_);rotate_left;rintro given8)
  |((with_reducible refine bf (fun((given4,t5):aa×Int)=>⟨[(2,.loc [.int .i64 given4.Kind,.int .i64 given4.N,.str given4.S.b,.sl false 4 given4.L.length (flat given4.L)]),(3,.loc [.int .i64 v_1.Kind,.int .i64 v_1.N,.str v_1.S.b,.sl false 4 v_1.L.length (flat v_1.L)]),(4,.loc [.int .i64 0,.int .i64 0,.str (aA.mk []).b,.sl true 4 0 []]),(9,.sl true 1 r3.length (flat r3)),(10,.int .i64 (r3.length:Int)),(11,.int .i64 t5)],[],s⟩) ?_ ?_);(first|exact rfl|simp -implicitDefEqProofs only[go_sem,seval]);rintro J ⟨given4,t5⟩)
  |((with_reducible refine cH (live:=[(2,false),(4,false)]) (fun(given1:aa)=>⟨[(2,.loc [.int .i64 given1.Kind,.int .i64 given1.N,.str given1.S.b,.sl false 4 given1.L.length (flat given1.L)]),(4,.loc [.int .i64 0,.int .i64 0,.str (aA.mk []).b,.sl true 4 0 []])],[],s⟩) (fun J=>?_) ?_);rotate_left;rintro given1)
  |simp -implicitDefEqProofs only[go_sem,seval])
theorem Me{given_0 v_1}{s:ab}{r:aa}(h:qV given_0 v_1=some r):FE Go.Proofs.Tryz.prog 94 [.agg [.int .i64 given_0.Kind,.int .i64 given_0.N,.str given_0.S.b,.sl false 4 given_0.L.length (flat given_0.L)],.agg [.int .i64 v_1.Kind,.int .i64 v_1.N,.str v_1.S.b,.sl false 4 v_1.L.length (flat v_1.L)]] s [.agg [.int .i64 r.Kind,.int .i64 r.N,.str r.S.b,.sl false 4 r.L.length (flat r.L)]] s:=Mf ⟨r,h,rfl,rfl⟩
def qT(o_0:ag):Option (Bool):=
 aP (gz o_0 (aA.mk [80,97,103,101])) fun r1=>
 some r1
def Aa:IC:=
 (ae [i1 1 (.cW 6 (.t 0)),cV 2 (.bool false)] [1]
 (ae [lm 3 6 1,i1 4 (.call 153 [(.t 3),(.c (.str [80,97,103,101]))]),mv 2 4] [2]
 .ret))
def ya:List ay:=[⟨2,true,none⟩]
theorem Ld:aC Go.Proofs.Tryz.prog 96 5 ya Aa=true:=by kernel_rfl
theorem Mb{o_0}{s:ab}{Q:List AV→ab→Prop}:ok (qT o_0) (fun r=>Q [.bool r] s)→FN Go.Proofs.Tryz.prog 96 [.agg [.int .i64 o_0.V.Kind,.int .i64 o_0.V.N,.str o_0.V.S.b,.sl false 4 o_0.V.L.length (flat o_0.V.L),.bool o_0.Stream,.str o_0.Data.b]] s Q:=by
 intro h
 refine FN.of (af mix) Ld rfl (Nat.le_of_ble_eq_true rfl) ?_
 revert h
 rw[Aa,ya,qT]
 repeat'(first
  |with_reducible refine ak (fun _(h:gz o_0 (aA.mk [80,97,103,101])=some _)=>pG h) (fun r1=>?_)
  |simp -implicitDefEqProofs only[go_sem,seval])
theorem Ma{o_0}{s:ab}{r:Bool}(h:qT o_0=some r):FE Go.Proofs.Tryz.prog 96 [.agg [.int .i64 o_0.V.Kind,.int .i64 o_0.V.N,.str o_0.V.S.b,.sl false 4 o_0.V.L.length (flat o_0.V.L),.bool o_0.Stream,.str o_0.Data.b]] s [.bool r] s:=Mb ⟨r,h,rfl,rfl⟩
def qW(n_0:Int)(page_1:aa)(path_2:(List Int))(given_3:aa):Option (dh):=
 jn (
  aP (eT) fun r5=>
  iter (fun((given6,t7):aa×Int)=>
   if decide (t7<(r5.length:Int))then
    jn (
     aK (0≤t7∧t7<r5.length)<|
     aP (cQ page_1 (ix r5 t7)) fun r20=>
     if r20.2 then
      aP (eU given6 (ix r5 t7)) fun r21=>
      some r21
     else
      some given6) fun(given15:aa)=>
    some (.inl (given15,bz (t7+1)))
   else
    some (.inr given6)) (given_3,0)) fun(given3:aa)=>
 some (dh.mk n_0 path_2 given3)
def Ad:IC:=
 (ae [i1 5 (.cW 4 (.t 1)),i1 7 (.cW 4 (.t 3)),i1 8 (.aq SK)] [0,2,5,7,8]
 (.join [(0,false),(2,true),(7,false),(8,false)] (ae [i1 13 (.call 151 []),le 14 0 13,mi 15 0] [0,2,5,7,8,13,14,15]
 (.block 0 (.loop [(0,false),(2,true),(5,false),(7,false),(8,false),(13,false),(14,false),(15,false)] (ae [bt 16 .lss 15 14] [0,2,5,7,8,13,14,15,16]
 (.seq (.cond (.t 16) .skip
 (.exit 0))
 (.join [(0,false),(2,true),(5,false),(7,false),(8,false),(13,false),(14,false),(15,false)] (.block 1 (ae [ia 17 [.str []] 13 15,ld 18 1 17,mv 10 18] [0,2,5,7,8,10,13,14,15]
 (ae [lm 20 4 5,mv 21 10,c2 22 37 20 21,iw 19 22,ex 23 19 0,ex 24 19 1,i1 11 (.aq gB),st 4 11 23,mv 12 24] [0,2,5,7,8,10,12,13,14,15]
 (ae [mv 25 12] [0,2,5,7,8,10,13,14,15,25]
 (.cond (.t 25) (.bD none [lm 26 4 7,mv 27 10,c2 28 53 26 27,st 4 7 28] [0,2,5,7,8,13,14,15])
 .skip)))))
 (.bD none [bn 29 .add 15 1,mv 15 29] [0,2,5,7,8,13,14,15])))))))
 (ae [mv 30 0,mt 31 2,lm 32 4 7,i1 33 (.build SK [(0,1,(.t 30)),(1,1,(.t 31)),(2,4,(.t 32))]),st 6 8 33] [8]
 .ret)))
def yd:List ay:=[⟨8,false,some (6,true)⟩]
theorem Lg:aC Go.Proofs.Tryz.prog 97 34 yd Ad=true:=by kernel_rfl
theorem Mh{n_0 page_1 path_2 given_3}{s:ab}{Q:List AV→ab→Prop}:ok (qW n_0 page_1 path_2 given_3) (fun r=>Q [.agg [.int .i64 r.A5,.sl false 1 r.Path.length (flat r.Path),.int .i64 r.ar.Kind,.int .i64 r.ar.N,.str r.ar.S.b,.sl false 4 r.ar.L.length (flat r.ar.L)]] s)→FN Go.Proofs.Tryz.prog 97 [.int .i64 n_0,.agg [.int .i64 page_1.Kind,.int .i64 page_1.N,.str page_1.S.b,.sl false 4 page_1.L.length (flat page_1.L)],.sl false 1 path_2.length (flat path_2),.agg [.int .i64 given_3.Kind,.int .i64 given_3.N,.str given_3.S.b,.sl false 4 given_3.L.length (flat given_3.L)]] s Q:=by
 intro h
 refine FN.of (af mix) Lg rfl (Nat.le_of_ble_eq_true rfl) ?_
 revert h
 rw[Ad,yd,qW]
 repeat'(first
  |with_reducible exact cF
  |with_reducible refine bj ?_ ?_
  |with_reducible refine cJ ?_
  |with_reducible refine ak (fun _(h:eT=some _)=>o4 h) (fun r5=>?_)
  |with_reducible refine ak (fun _(h:cQ page_1 (ix r5 t7)=some _)=>eH h) (fun r20=>?_)
  |with_reducible refine ak (fun _(h:eU given6 (ix r5 t7)=some _)=>pI h) (fun r21=>?_)
  |((with_reducible refine cH (live:=[(0,false),(2,true),(5,false),(7,false),(8,false),(13,false),(14,false),(15,false)]) (fun(given15:aa)=>⟨[(0,.int .i64 n_0),(2,.sl false 1 path_2.length (flat path_2)),(5,.loc [.int .i64 page_1.Kind,.int .i64 page_1.N,.str page_1.S.b,.sl false 4 page_1.L.length (flat page_1.L)]),(7,.loc [.int .i64 given15.Kind,.int .i64 given15.N,.str given15.S.b,.sl false 4 given15.L.length (flat given15.L)]),(8,.loc [.int .i64 0,.sl true 1 0 [],.int .i64 0,.int .i64 0,.str (aA.mk []).b,.sl true 4 0 []]),(13,.sl true 1 r5.length (flat r5)),(14,.int .i64 (r5.length:Int)),(15,.int .i64 t7)],[],s⟩) (fun J=>?_) ?_);rotate_left;rintro given15)
  |((with_reducible refine bf (fun((given6,t7):aa×Int)=>⟨[(0,.int .i64 n_0),(2,.sl false 1 path_2.length (flat path_2)),(5,.loc [.int .i64 page_1.Kind,.int .i64 page_1.N,.str page_1.S.b,.sl false 4 page_1.L.length (flat page_1.L)]),(7,.loc [.int .i64 given6.Kind,.int .i64 given6.N,.str given6.S.b,.sl false 4 given6.L.length (flat given6.L)]),(8,.loc [.int .i64 0,.sl true 1 0 [],.int .i64 0,.int .i64 0,.str (aA.mk []).b,.sl true 4 0 []]),(13,.sl true 1 r5.length (flat r5)),(14,.int .i64 (r5.length:Int)),(15,.int .i64 t7)],[],s⟩) ?_ ?_);(first|exact rfl|simp -implicitDefEqProofs only[go_sem,seval]);rintro J ⟨given6,t7⟩)
  |((with_reducible refine cH (live:=[(0,false),(2,true),(7,false),(8,false)]) (fun(given3:aa)=>⟨[(0,.int .i64 n_0),(2,.sl false 1 path_2.length (flat path_2)),(7,.loc [.int .i64 given3.Kind,.int .i64 given3.N,.str given3.S.b,.sl false 4 given3.L.length (flat given3.L)]),(8,.loc [.int .i64 0,.sl true 1 0 [],.int .i64 0,.int .i64 0,.str (aA.mk []).b,.sl true 4 0 []])],[],s⟩) (fun J=>?_) ?_);rotate_left;rintro given3)
  |simp -implicitDefEqProofs only[go_sem,seval])
theorem Mg{n_0 page_1 path_2 given_3}{s:ab}{r:dh}(h:qW n_0 page_1 path_2 given_3=some r):FE Go.Proofs.Tryz.prog 97 [.int .i64 n_0,.agg [.int .i64 page_1.Kind,.int .i64 page_1.N,.str page_1.S.b,.sl false 4 page_1.L.length (flat page_1.L)],.sl false 1 path_2.length (flat path_2),.agg [.int .i64 given_3.Kind,.int .i64 given_3.N,.str given_3.S.b,.sl false 4 given_3.L.length (flat given_3.L)]] s [.agg [.int .i64 r.A5,.sl false 1 r.Path.length (flat r.Path),.int .i64 r.ar.Kind,.int .i64 r.ar.N,.str r.ar.S.b,.sl false 4 r.ar.L.length (flat r.ar.L)]] s:=Mh ⟨r,h,rfl,rfl⟩
def qS(f_0:pK)(p_1:Int):Option (dh×Int×Int):=
 aP (vP f_0) fun r1=>
 if r1.2.2 !=0 then
  some ((dh.mk 0 ([]:List Int) (aa.mk 0 0 (aA.mk []) ([]:List aa))),r1.2.1,r1.2.2)
 else
  if(decide (p_1<0))||(decide (p_1≥r1.1.gP))then
   some ((dh.mk 0 ([]:List Int) (aa.mk 0 0 (aA.mk []) ([]:List aa))),0,25)
  else
   aP (dF ([]:List aa)) fun r2=>
   Hg (
    mO (
     iter (fun((p7,x8,path9,given10,t11):Int×bq×(List Int)×aa×Int)=>
      if decide (t11<64)then
       Hg (
        aK ((path9.length+[x8.n_].length)*8≤room)<|
        aP (qV given10 x8.v_) fun r26=>
        if x8.gP==(x8.dj.length:Int)then
         aK (0≤p7∧p7<x8.dj.length)<|
         aP (iA f_0 (ix x8.dj p7)) fun r27=>
         if r27.2.2 !=0 then
          some (.inr ((dh.mk 0 ([]:List Int) (aa.mk 0 0 (aA.mk []) ([]:List aa))),r27.2.1,r27.2.2))
         else
          aP (qT r27.1) fun r28=>
          if r28 then
           aP (qW (ix x8.dj p7) r27.1.V (path9++[x8.n_]) r26) fun r29=>
           some (.inr (r29,(0:Int),(0:Int)))
          else
           aP (ir (ix x8.dj p7) r27.1) fun r30=>
           if(!r30.2)||(r30.1.gP !=1)then
            some (.inr ((dh.mk 0 ([]:List Int) (aa.mk 0 0 (aA.mk []) ([]:List aa))),(0:Int),(24:Int)))
           else
            some (.inl (0,r30.1,path9++[x8.n_],r26))
        else
         Hg (
          mO (
           iter (fun((p42,t43):Int×Int)=>
            if decide (t43<(x8.dj.length:Int))then
             aK (0≤t43∧t43<x8.dj.length)<|
             aP (n9 f_0 (ix x8.dj t43)) fun r55=>
             if r55.2.2 !=0 then
              some (.inr (.inr (.inr (r55.2.1,r55.2.2))))
             else
              if decide (p42<r55.1.gP)then
               some (.inr (.inl (p42,r55.1)))
              else
               some (.inl (bz (p42 -r55.1.gP),bz (t43+1)))
            else
             some (.inr (.inr (.inl ())))) (p7,0)) (fun((p45,x47):Int×bq)=>
           some (.inr (.inl (p45,x47))))
          (pM (fun(_:Unit)=>some (.inl ())) (fun((t53,t54):Int×Int)=>some (.inr (.inr (t53,t54)))))) (fun(_:Unit)=>
          some (.inr ((dh.mk 0 ([]:List Int) (aa.mk 0 0 (aA.mk []) ([]:List aa))),(0:Int),(24:Int))))
         (pM (fun((p33,x35):Int×bq)=>some (.inl (p33,x35,path9++[x8.n_],r26))) (fun((t40,t41):Int×Int)=>some (.inr ((dh.mk 0 ([]:List Int) (aa.mk 0 0 (aA.mk []) ([]:List aa))),t40,t41))))) (fun((p17,x19,path20,given21):Int×bq×(List Int)×aa)=>
        some (.inl (p17,x19,path20,given21,bz (t11+1))))
       (fun((t23,t24,t25):dh×Int×Int)=>some (.inr (.inr (t23,t24,t25))))
      else
       some (.inr (.inl ()))) (p_1,r1.1,([]:List Int),r2,0)) (fun(_:Unit)=>
     some (.inl ()))
    (fun((t13,t14,t15):dh×Int×Int)=>some (.inr (t13,t14,t15)))) (fun(_:Unit)=>
    some ((dh.mk 0 ([]:List Int) (aa.mk 0 0 (aA.mk []) ([]:List aa))),0,24))
   (fun((t4,t5,t6):dh×Int×Int)=>some (t4,t5,t6))
def z8:IC:=
 (ae [i1 4 (.aq SK),mi 5 0,mi 6 0] [0,1,4]
 (.scope (ae [mv 24 0,c1 25 93 24,iw 23 25,ex 26 23 0,ex 27 23 1,ex 28 23 2,i1 7 (.aq [.int .i64 0,.int .i64 0,.int .i64 0,.str [],.sl true 4 0 [],.sl true 1 0 [],.int .i64 0]),st 7 7 26,mv 8 27,mv 9 28] [0,1,4,7,8,9]
 (.seq (.block 0 (ae [mv 30 9,bn 31 .neq 30 0,mv 29 31] [0,1,4,7,8,9,29]
 (.cond (.t 29) (ae [i1 32 (.build SK []),mv 33 8,mv 34 9,st 6 4 32,mv 5 33,mv 6 34] [4,5,6]
 .ret)
 (ae [mv 36 1,bn 37 .lss 36 0,mv 38 37,c9 39 1 38 false,fg 40 38 false 6 7,lg 41 38 false 1 40,s6 42 38 false .geq 39 41,po 43 38 42,mv 35 43] [0,1,4,7,35]
 (.cond (.t 35) (ae [i1 44 (.build SK []),st 6 4 44,mi 5 0,mi 6 25] [4,5,6]
 .ret)
 .skip)))))
 (ae [i1 10 (.iR true (.c (.sl true 1 0 [])))] [0,1,4,7,10]
 (ae [i1 45 (.call 86 [(.c (.sl true 4 0 []))]),i1 11 (.aq gB),st 4 11 45] [0,1,4,7,10,11]
 (.seq (.label 0)
 (.join [(4,false)] (ae [mi 46 0] [0,1,4,7,10,11,46]
 (.block 1 (.loop [(0,false),(1,false),(4,false),(7,false),(10,false),(11,false),(46,false)] (ae [bn 47 .lss 46 64] [0,1,4,7,10,11,46,47]
 (.seq (.cond (.t 47) .skip
 (.exit 1))
 (.join [(0,false),(1,false),(4,false),(7,false),(10,false),(11,false),(46,false)] (.block 2 (.seq (.wY [11] 11 [mt 48 10,fa 49 0 7,ld 50 1 49,i1 51 (.aY 1 1 lZ [(0,1,(.t 50))]),Q4 52 1 8 48 51,lm 53 4 11,fa 54 1 7,lm 55 4 54,c2 56 94 53 55,mt 10 52,st 4 11 56] [0,1,4,7,10,11,46])
 (.seq (ae [fa 57 6 7,ld 58 1 57,fa 59 5 7,ld 60 1 59,le 61 0 60,bt 62 .eql 58 61] [0,1,4,7,10,11,46,62]
 (.cond (.t 62) (ae [fa 63 5 7,ld 64 1 63,mv 65 1,ia 66 lZ 64 65,ld 67 1 66,mv 12 67] [0,4,7,10,11,12,46]
 (ae [mv 69 0,mv 70 12,c2 71 95 69 70,iw 68 71,ex 72 68 0,ex 73 68 1,ex 74 68 2,i1 13 (.aq xM),st 6 13 72,mv 14 73,mv 15 74] [0,4,7,10,11,12,13,14,15,46]
 (.seq (.block 3 (ae [mv 76 15,bn 77 .neq 76 0,mv 75 77] [0,4,7,10,11,12,13,14,15,46,75]
 (.cond (.t 75) (ae [i1 78 (.build SK []),mv 79 14,mv 80 15,st 6 4 78,mv 5 79,mv 6 80] [4,5,6]
 .ret)
 (ae [lm 82 6 13,c1 83 96 82,mv 81 83] [0,4,7,10,11,12,13,46,81]
 (.cond (.t 81) (ae [mv 84 12,fa 85 0 13,lm 86 4 85,mt 87 10,lm 88 4 11,Sj 89 97 84 86 87 88,st 6 4 89,mi 5 0,mi 6 0] [4,5,6]
 .ret)
 .skip)))))
 (ae [mv 91 12,lm 92 6 13,c2 93 98 91 92,iw 90 93,ex 94 90 0,ex 95 90 1,i1 16 (.aq [.int .i64 0,.int .i64 0,.int .i64 0,.str [],.sl true 4 0 [],.sl true 1 0 [],.int .i64 0]),st 7 16 94,mv 17 95] [0,4,7,10,11,16,17,46]
 (.seq (ae [mv 96 17,no 97 96,mv 98 97,fg 99 98 false 6 16,lg 100 98 false 1 99,jx 101 98 false .neq 100 1,po 102 98 101] [0,4,7,10,11,16,46,102]
 (.cond (.t 102) (ae [i1 103 (.build SK []),st 6 4 103,mi 5 0,mi 6 24] [4,5,6]
 .ret)
 .skip))
 (ae [lm 104 7 16,st 7 7 104,mi 1 0] [0,1,4,7,10,11,46]
 (.exit 2)))))))
 .skip))
 (.join [(4,false)] (ae [fa 105 5 7,ld 106 1 105,le 107 0 106,mi 108 0] [0,1,4,7,10,11,46,106,107,108]
 (.block 4 (.loop [(0,false),(1,false),(4,false),(7,false),(10,false),(11,false),(46,false),(106,true),(107,false),(108,false)] (ae [bt 109 .lss 108 107] [0,1,4,7,10,11,46,106,107,108,109]
 (.seq (.cond (.t 109) .skip
 (.exit 4))
 (.seq (.block 5 (ae [ia 110 lZ 106 108,ld 111 1 110,mv 19 111] [0,1,4,7,10,11,19,46,106,107,108]
 (ae [mv 113 0,mv 114 19,c2 115 99 113 114,iw 112 115,ex 116 112 0,ex 117 112 1,ex 118 112 2,i1 20 (.aq [.int .i64 0,.int .i64 0,.int .i64 0,.str [],.sl true 4 0 [],.sl true 1 0 [],.int .i64 0]),st 7 20 116,mv 21 117,mv 22 118] [0,1,4,7,10,11,20,21,22,46,106,107,108]
 (.seq (ae [mv 119 22,bn 120 .neq 119 0] [0,1,4,7,10,11,20,21,22,46,106,107,108,120]
 (.cond (.t 120) (ae [i1 121 (.build SK []),mv 122 21,mv 123 22,st 6 4 121,mv 5 122,mv 6 123] [4,5,6]
 .ret)
 .skip))
 (.seq (ae [mv 124 1,fa 125 6 20,ld 126 1 125,bt 127 .lss 124 126] [0,1,4,7,10,11,20,46,106,107,108,127]
 (.cond (.t 127) (ae [lm 128 7 20,st 7 7 128] [0,1,4,7,10,11,46]
 (.exit 2))
 .skip))
 (.bD none [mv 129 1,fa 130 6 20,ld 131 1 130,bt 132 .sub 129 131,mv 1 132] [0,1,4,7,10,11,46,106,107,108]))))))
 (.bD none [bn 133 .add 108 1,mv 108 133] [0,1,4,7,10,11,46,106,107,108])))))))
 (ae [i1 134 (.build SK []),st 6 4 134,mi 5 0,mi 6 24] [4,5,6]
 .ret)))))
 (.bD none [bn 135 .add 46 1,mv 46 135] [0,1,4,7,10,11,46])))))))
 (ae [i1 136 (.build SK []),st 6 4 136,mi 5 0,mi 6 24] [4,5,6]
 .ret)))))))))
def x7:List ay:=[⟨4,false,some (6,true)⟩,⟨5,true,none⟩,⟨6,true,none⟩]
theorem Lc:aC Go.Proofs.Tryz.prog 46 137 x7 z8=true:=by kernel_rfl
theorem L9{f_0 p_1}{s:ab}{Q:List AV→ab→Prop}(va0:c6 s f_0):ok (qS f_0 p_1) (fun r=>Q [.agg [.int .i64 r.1.A5,.sl false 1 r.1.Path.length (flat r.1.Path),.int .i64 r.1.ar.Kind,.int .i64 r.1.ar.N,.str r.1.ar.S.b,.sl false 4 r.1.ar.L.length (flat r.1.ar.L)],.int .i64 r.2.1,.int .i64 r.2.2] s)→FN Go.Proofs.Tryz.prog 46 [.ref f_0.B 0,.int .i64 p_1] s Q:=by
 intro h
 refine FN.of (af mix) Lc rfl (Nat.le_of_ble_eq_true rfl) ?_
 revert h
 rw[z8,x7,qS]
 repeat'(first
  |with_reducible exact cF
  |((with_reducible refine OL ?_ ?_);exact rfl)
  |((with_reducible refine Zr ?_ ?_);exact rfl)
  |with_reducible refine bj ?_ ?_
  |with_reducible refine cJ ?_
  |with_reducible refine ak (fun _(h:vP f_0=some _)=>Ou (c6.mono (by assumption) (by repeat'(first|exact Sub.refl _|refine Sub.set ?_ ?_|assumption|(simp[ab.set, *];done)))) h) (fun r1=>?_)
  |with_reducible refine ak (fun _(h:dF ([]:List aa)=some _)=>(by refine jV ?_ (jd h);simp -implicitDefEqProofs only[go_sem,seval])) (fun r2=>?_)
  |with_reducible refine bH (fun _(h:qV given10 x8.v_=some _)=>Me h) (fun _=>rfl) (fun r26=>?_)
  |with_reducible refine ak (fun _(h:iA f_0 (ix x8.dj p7)=some _)=>mM (c6.mono (by assumption) (by repeat'(first|exact Sub.refl _|refine Sub.set ?_ ?_|assumption|(simp[ab.set, *];done)))) h) (fun r27=>?_)
  |with_reducible refine ak (fun _(h:qT r27.1=some _)=>Ma h) (fun r28=>?_)
  |with_reducible refine ak (fun _(h:qW (ix x8.dj p7) r27.1.V (path9++[x8.n_]) r26=some _)=>(by refine jV ?_ (Mg h);simp -implicitDefEqProofs only[go_sem,seval])) (fun r29=>?_)
  |with_reducible refine ak (fun _(h:ir (ix x8.dj p7) r27.1=some _)=>vO h) (fun r30=>?_)
  |with_reducible refine ak (fun _(h:n9 f_0 (ix x8.dj t43)=some _)=>C7 (c6.mono (by assumption) (by repeat'(first|exact Sub.refl _|refine Sub.set ?_ ?_|assumption|(simp[ab.set, *];done)))) h) (fun r55=>?_)
  |((with_reducible refine bf (fun((p42,t43):Int×Int)=>⟨[(0,.ref f_0.B 0),(1,.int .i64 p42),(4,.loc [.int .i64 0,.sl true 1 0 [],.int .i64 0,.int .i64 0,.str (aA.mk []).b,.sl true 4 0 []]),(7,.loc [.int .i64 x8.n_,.int .i64 x8.v_.Kind,.int .i64 x8.v_.N,.str x8.v_.S.b,.sl false 4 x8.v_.L.length (flat x8.v_.L),.sl false 1 x8.dj.length (flat x8.dj),.int .i64 x8.gP]),(10,.sl true 1 (path9++[x8.n_]).length (flat (path9++[x8.n_]))),(11,.loc [.int .i64 r26.Kind,.int .i64 r26.N,.str r26.S.b,.sl false 4 r26.L.length (flat r26.L)]),(46,.int .i64 t11),(106,.sl false 1 x8.dj.length (flat x8.dj)),(107,.int .i64 (x8.dj.length:Int)),(108,.int .i64 t43)],[],s⟩) ?_ ?_);(first|exact rfl|simp -implicitDefEqProofs only[go_sem,seval]);rintro J ⟨p42,t43⟩)
  |((with_reducible refine dY (live:=[(4,false)]) (fun(_:Unit)=>⟨[(4,.loc [.int .i64 0,.sl true 1 0 [],.int .i64 0,.int .i64 0,.str (aA.mk []).b,.sl true 4 0 []])],[],s⟩) (fun J=>?_) ?_);rotate_left;rintro _)
  |((with_reducible refine dY (live:=[(0,false),(1,false),(4,false),(7,false),(10,false),(11,false),(46,false)]) (fun((p17,x19,path20,given21):Int×bq×(List Int)×aa)=>⟨[(0,.ref f_0.B 0),(1,.int .i64 p17),(4,.loc [.int .i64 0,.sl true 1 0 [],.int .i64 0,.int .i64 0,.str (aA.mk []).b,.sl true 4 0 []]),(7,.loc [.int .i64 x19.n_,.int .i64 x19.v_.Kind,.int .i64 x19.v_.N,.str x19.v_.S.b,.sl false 4 x19.v_.L.length (flat x19.v_.L),.sl false 1 x19.dj.length (flat x19.dj),.int .i64 x19.gP]),(10,.sl true 1 path20.length (flat path20)),(11,.loc [.int .i64 given21.Kind,.int .i64 given21.N,.str given21.S.b,.sl false 4 given21.L.length (flat given21.L)]),(46,.int .i64 t11)],[],s⟩) (fun J=>?_) ?_);rotate_left;rintro⟨p17,x19,path20,given21⟩)
  |((with_reducible refine bf (fun((p7,x8,path9,given10,t11):Int×bq×(List Int)×aa×Int)=>⟨[(0,.ref f_0.B 0),(1,.int .i64 p7),(4,.loc [.int .i64 0,.sl true 1 0 [],.int .i64 0,.int .i64 0,.str (aA.mk []).b,.sl true 4 0 []]),(7,.loc [.int .i64 x8.n_,.int .i64 x8.v_.Kind,.int .i64 x8.v_.N,.str x8.v_.S.b,.sl false 4 x8.v_.L.length (flat x8.v_.L),.sl false 1 x8.dj.length (flat x8.dj),.int .i64 x8.gP]),(10,.sl true 1 path9.length (flat path9)),(11,.loc [.int .i64 given10.Kind,.int .i64 given10.N,.str given10.S.b,.sl false 4 given10.L.length (flat given10.L)]),(46,.int .i64 t11)],[],s⟩) ?_ ?_);(first|exact rfl|simp -implicitDefEqProofs only[go_sem,seval]);rintro J ⟨p7,x8,path9,given10,t11⟩)
  |simp -implicitDefEqProofs only[go_sem,seval])
theorem L8{f_0 p_1}{s:ab}{r:dh×Int×Int}(va0:c6 s f_0)(h:qS f_0 p_1=some r):FE Go.Proofs.Tryz.prog 46 [.ref f_0.B 0,.int .i64 p_1] s [.agg [.int .i64 r.1.A5,.sl false 1 r.1.Path.length (flat r.1.Path),.int .i64 r.1.ar.Kind,.int .i64 r.1.ar.N,.str r.1.ar.S.b,.sl false 4 r.1.ar.L.length (flat r.1.ar.L)],.int .i64 r.2.1,.int .i64 r.2.2] s:=L9 va0 ⟨r,h,rfl,rfl⟩
structure cP where
 l_:(List Int)
 U3:(List (Int×Int))
def dn(k:Int):AV:=.int .i64 k
def dR(v:Int):AV:=.int .i64 v
theorem EN(a b:Int):kc (dn a) (dn b)=(a==b):=lj a b
@[go_sem]theorem Zc(ok:Bool)(m:(List (Int×Int)))(k:Int):mT (.int .i64) (.int .i64 0) ok (.int .i64 k) (some (.map (fT dn dR m)))=.prt True (Hh ok (.int .i64 (PK 0 m k)) (PL m k)):=CP (ek:=dn) (ev:=dR) (z:=0) (fun _=>rfl) EN rfl (fun _=>rfl) (fun _=>rfl) ok m k
@[go_sem]theorem aan(b:Nat)(σ:St)(d:Option Nat)(K:St→Prop)(m:(List (Int×Int)))(k:Int)(v:Int):SD (.int .i64) b σ (.int .i64 k) (.int .i64 v) d K (some (.map (fT dn dR m)))=K ({σ with s:=σ.s.set b (.map (fT dn dR (wV m k v)))}.put d (.fE [])):=Oy (ek:=dn) (ev:=dR) (fun _=>rfl) EN (fun _=>rfl) m k v rfl rfl
def cZ(r_0:cP)(l_1:(List Int)):Option (cP):=
 iter (fun((t1,o2):Int×cP)=>
  if decide (t1<(l_1.length:Int))then
   jn (
    aK (0≤t1∧t1<l_1.length)<|
    if !(PL o2.U3 (ix l_1 t1))then
     aK ((o2.l_.length+[ix l_1 t1].length)*8≤room)<|
     some (cP.mk (o2.l_++[ix l_1 t1]) (wV o2.U3 (ix l_1 t1) (o2.l_.length:Int)))
    else
     some o2) fun(o7:cP)=>
   some (.inl (bz (t1+1),o7))
  else
   some (.inr o2)) (0,r_0)
def p8:IC:=
 (ae [mt 8 1,le 9 0 8,mi 10 0] [0,8,9,10]
 (.block 0 (.loop [(0,false),(8,true),(9,false),(10,false)] (ae [bt 11 .lss 10 9] [0,8,9,10,11]
 (.seq (.cond (.t 11) .skip
 (.exit 0))
 (.join [(0,false),(8,true),(9,false),(10,false)] (.block 1 (ae [ia 12 lZ 8 10,ld 13 1 12,mv 5 13] [0,5,8,9,10]
 (ae [mv 15 0,nc 16 15,fa 17 1 16,i1 18 (.aU [.mV] false (.t 17)),mv 19 5,i1 20 (.lookup (.int .i64) (.int .i64 0) true (.t 18) (.t 19)),iw 14 20,ex 21 14 0,ex 22 14 1,mv 6 21,mv 7 22] [0,5,7,8,9,10]
 (ae [mv 23 7,no 24 23] [0,5,8,9,10,24]
 (.cond (.t 24) (.seq (.bD (some 10) [mv 25 0,nc 26 25,fa 27 1 26,i1 28 (.aU [.mV] false (.t 27)),mv 29 5,mv 30 0,nc 31 30,fa 32 0 31,i1 33 (.aU [.sl false 1 0 []] false (.t 32)),le 34 0 33,i0 (.mapUpdate (.int .i64) (.t 28) (.t 29) (.t 34))] [0,5,8,9,10])
 (.bD none [mv 35 0,mv 36 0,nc 37 36,fa 38 0 37,i1 39 (.gW (.t 38)),mv 40 5,i1 41 (.aY 1 1 lZ [(0,1,(.t 40))]),Q4 42 1 8 39 41,nc 43 35,fa 44 0 43,st 1 44 42] [0,8,9,10]))
 .skip)))))
 (.bD none [bn 45 .add 10 1,mv 10 45] [0,8,9,10])))))))
def oN:List ay:=[]
theorem Bw:aC Go.Proofs.Tryz.prog 100 46 oN p8=true:=by kernel_rfl
theorem fQ{r_0 l_1}{B0 B0_in_:Nat}{s:ab}{Q:List AV→ab→Prop}(hB0:s B0=some (.cells [.sl true 1 r_0.l_.length (flat r_0.l_),.mp B0_in_]))(hB0_in_:s B0_in_=some (.map (fT dn dR r_0.U3)))(nB0B0_in_:B0≠B0_in_):ok (cZ r_0 l_1) (fun r=>Q [] ((s.set B0 (.cells [.sl true 1 r.l_.length (flat r.l_),.mp B0_in_])).set B0_in_ (.map (fT dn dR r.U3))))→FN Go.Proofs.Tryz.prog 100 [.ref B0 0,.sl false 1 l_1.length (flat l_1)] s Q:=by
 have hS:s=((s.set B0 (.cells [.sl true 1 r_0.l_.length (flat r_0.l_),.mp B0_in_])).set B0_in_ (.map (fT dn dR r_0.U3))):=by simp only[du hB0,du hB0_in_]
 rw[hS]
 intro h
 refine FN.of (af mix) Bw rfl (Nat.le_of_ble_eq_true rfl) ?_
 revert h
 rw[p8,oN,cZ]
 repeat'(first
  |with_reducible exact cF
  |with_reducible refine bj ?_ ?_
  |with_reducible refine cJ ?_
  |((with_reducible refine cH (fun(o7:cP)=>⟨[(0,.ref B0 0),(8,.sl false 1 l_1.length (flat l_1)),(9,.int .i64 (l_1.length:Int)),(10,.int .i64 t1)],[],((s.set B0 (.cells [.sl true 1 o7.l_.length (flat o7.l_),.mp B0_in_])).set B0_in_ (.map (fT dn dR o7.U3)))⟩) (fun J=>?_) ?_);rotate_left;rintro o7)
  |((with_reducible refine bf (fun((t1,o2):Int×cP)=>⟨[(0,.ref B0 0),(8,.sl false 1 l_1.length (flat l_1)),(9,.int .i64 (l_1.length:Int)),(10,.int .i64 t1)],[],((s.set B0 (.cells [.sl true 1 o2.l_.length (flat o2.l_),.mp B0_in_])).set B0_in_ (.map (fT dn dR o2.U3)))⟩) ?_ ?_);(first|exact rfl|simp -implicitDefEqProofs only[go_sem,seval,ai nB0B0_in_,ai nB0B0_in_.symm,set_comm nB0B0_in_]);rintro J ⟨t1,o2⟩)
  |simp -implicitDefEqProofs only[go_sem,seval,ai nB0B0_in_,ai nB0B0_in_.symm,set_comm nB0B0_in_])
def cI(k:Int):AV:=.int .i64 k
def de(v:Bool):AV:=.bool v
theorem Cy(a b:Int):kc (cI a) (cI b)=(a==b):=lj a b
@[go_sem]theorem XL(ok:Bool)(m:(List (Int×Bool)))(k:Int):mT (.int .i64) (.bool false) ok (.int .i64 k) (some (.map (fT cI de m)))=.prt True (Hh ok (.bool (PK false m k)) (PL m k)):=CP (ek:=cI) (ev:=de) (z:=false) (fun _=>rfl) Cy rfl (fun _=>rfl) (fun _=>rfl) ok m k
@[go_sem]theorem Yn(b:Nat)(σ:St)(d:Option Nat)(K:St→Prop)(m:(List (Int×Bool)))(k:Int)(v:Bool):SD (.int .i64) b σ (.int .i64 k) (.bool v) d K (some (.map (fT cI de m)))=K ({σ with s:=σ.s.set b (.map (fT cI de (wV m k v)))}.put d (.fE [])):=Oy (ek:=cI) (ev:=de) (fun _=>rfl) Cy (fun _=>rfl) m k v rfl rfl
def na(x_0:aa)(c_1:(List (Int×Bool)))(c_2:(List Int)):Option (Bool×(List (Int×Bool))×(List Int)):=
 jn (
  if(x_0.Kind==8)&&(!(PK false c_1 x_0.N))then
   aK ((c_2.length+[x_0.N].length)*8≤room)<|
   some (wV c_1 x_0.N true,c_2++[x_0.N])
  else
   some (c_1,c_2)) fun((o1,o2):(List (Int×Bool))×(List Int))=>
 some (true,o1,o2)
def sn:IC:=
 (ae [i1 3 (.cW 4 (.t 0)),cV 4 (.bool false)] [1,2,3]
 (.join [] (.seq (.bD (some 8) [fa 5 0 3,ld 6 1 5,bn 7 .eql 6 8,mv 8 7,cS 9 8 true (.aU [.mV] false (.t 1)),fg 10 8 true 1 3,lg 11 8 true 1 10,cS 12 8 true (.lookup (.int .i64) (.bool false) false (.t 9) (.t 11)),cS 13 8 true (.un .not (.t 12)),pf 14 8 13] [1,2,3,14])
 (.cond (.t 14) (ae [i1 15 (.aU [.mV] false (.t 1)),fa 16 1 3,ld 17 1 16,i0 (.mapUpdate (.int .i64) (.t 15) (.t 17) (.c (.bool true)))] [2,3]
 (.bD none [i1 18 (.gW (.t 2)),fa 19 1 3,ld 20 1 19,i1 21 (.aY 1 1 lZ [(0,1,(.t 20))]),Q4 22 1 8 18 21,st 1 2 22] []))
 .skip))
 (ae [cV 4 (.bool true)] [4]
 .ret)))
def qO:List ay:=[⟨4,true,none⟩]
theorem Dz:aC Go.Proofs.Tryz.prog 198 23 qO sn=true:=by kernel_rfl
theorem DV{x_0 c_1 c_2}{B1 B1_m B2:Nat}{s:ab}{Q:List AV→ab→Prop}(hB1:s B1=some (.cells [.mp B1_m]))(hB1_m:s B1_m=some (.map (fT cI de c_1)))(hB2:s B2=some (.cells [.sl true 1 c_2.length (flat c_2)]))(nB1B1_m:B1≠B1_m)(nB1B2:B1≠B2)(nB1_mB2:B1_m≠B2):ok (na x_0 c_1 c_2) (fun r=>Q [.bool r.1] (((s.set B1 (.cells [.mp B1_m])).set B1_m (.map (fT cI de r.2.1))).set B2 (.cells [.sl true 1 r.2.2.length (flat r.2.2)])))→FN Go.Proofs.Tryz.prog 198 [.agg [.int .i64 x_0.Kind,.int .i64 x_0.N,.str x_0.S.b,.sl false 4 x_0.L.length (flat x_0.L)],.ref B1 0,.ref B2 0] s Q:=by
 have hS:s=(((s.set B1 (.cells [.mp B1_m])).set B1_m (.map (fT cI de c_1))).set B2 (.cells [.sl true 1 c_2.length (flat c_2)])):=by simp only[du hB1,du hB1_m,du hB2]
 rw[hS]
 intro h
 refine FN.of (af mix) Dz rfl (Nat.le_of_ble_eq_true rfl) ?_
 revert h
 rw[sn,qO,na]
 repeat'(first
  |((with_reducible refine cH (fun((o1,o2):(List (Int×Bool))×(List Int))=>⟨[],[],(((s.set B1 (.cells [.mp B1_m])).set B1_m (.map (fT cI de o1))).set B2 (.cells [.sl true 1 o2.length (flat o2)]))⟩) (fun J=>?_) ?_);rotate_left;rintro⟨o1,o2⟩)
  |simp -implicitDefEqProofs only[go_sem,seval,ai nB1B1_m,ai nB1B1_m.symm,set_comm nB1B1_m,ai nB1B2,ai nB1B2.symm,set_comm nB1B2,ai nB1_mB2,ai nB1_mB2.symm,set_comm nB1_mB2])
def jD:Nat→aa→(List (Int×Bool))→(List Int)→Option (Bool×(List (Int×Bool))×(List Int))
 |0,_,_,_=>none
 |fuel+1,v_0,c1_0,c1_1=>
  aP (na v_0 c1_0 c1_1) fun r1=>
  if !r1.1 then
   some (false,r1.2.1,r1.2.2)
  else
   if(v_0.Kind !=6)&&(v_0.Kind !=7)then
    some (true,r1.2.1,r1.2.2)
   else
    Hg (
     mO (
      iter (fun((t7,o8,o9):Int×(List (Int×Bool))×(List Int))=>
       if decide (t7<(v_0.L.length:Int))then
        aK (0≤t7∧t7<v_0.L.length)<|
        aP (jD fuel (ix v_0.L t7) o8 o9) fun r15=>
        if !r15.1 then
         some (.inr (.inr (false,r15.2.1,r15.2.2)))
        else
         some (.inl (bz (t7+1),r15.2.1,r15.2.2))
       else
        some (.inr (.inl (o8,o9)))) (0,r1.2.1,r1.2.2)) (fun((o10,o11):(List (Int×Bool))×(List Int))=>
      some (.inl (o10,o11)))
     (fun((t12,o13,o14):Bool×(List (Int×Bool))×(List Int))=>some (.inr (t12,o13,o14)))) (fun((o2,o3):(List (Int×Bool))×(List Int))=>
     some (true,o2,o3))
    (fun((t4,o5,o6):Bool×(List (Int×Bool))×(List Int))=>some (t4,o5,o6))
theorem lO:(ny Go.Proofs.Tryz.prog 198=true)=True:=eq_true (by kernel_rfl)
def xH:IC:=
 (ae [i1 2 (.cW 4 (.t 0)),cV 4 (.bool false)] [1,2]
 (.seq (ae [mv 7 1,lm 8 4 2,i1 9 (.b6 (.t 7) [(.t 8)]),no 10 9] [1,2,10]
 (.cond (.t 10) (ae [cV 4 (.bool false)] [4]
 .ret)
 .skip))
 (.seq (ae [fa 11 0 2,ld 12 1 11,bn 13 .neq 12 6,mv 14 13,fg 15 14 true 0 2,lg 16 14 true 1 15,jx 17 14 true .neq 16 7,pf 18 14 17] [1,2,18]
 (.cond (.t 18) (ae [cV 4 (.bool true)] [4]
 .ret)
 .skip))
 (.join [] (ae [fa 19 3 2,ld 20 1 19,le 21 0 20,mi 22 0] [1,20,21,22]
 (.block 0 (.loop [(1,false),(20,true),(21,false),(22,false)] (ae [bt 23 .lss 22 21] [1,20,21,22,23]
 (.seq (.cond (.t 23) .skip
 (.exit 0))
 (.seq (.block 1 (ae [ia 24 oG 20 22,lm 25 4 24,i1 6 (.aq gB),st 4 6 25] [1,6,20,21,22]
 (ae [lm 26 4 6,mv 27 1,c2 28 197 26 27,no 29 28] [1,20,21,22,29]
 (.cond (.t 29) (ae [cV 4 (.bool false)] [4]
 .ret)
 .skip))))
 (.bD none [bn 30 .add 22 1,mv 22 30] [1,20,21,22])))))))
 (ae [cV 4 (.bool true)] [4]
 .ret)))))
def vD:List ay:=[⟨4,true,none⟩]
theorem Ia:aC Go.Proofs.Tryz.prog 197 31 vD xH=true:=by kernel_rfl
theorem I2{fuel:Nat}:∀{v_0:aa}{c1_0:(List (Int×Bool))}{c1_1:(List Int)}{B1_0 B1_0_m B1_1:Nat}{s:ab}{Q:List AV→ab→Prop}(hB1_0:s B1_0=some (.cells [.mp B1_0_m]))(hB1_0_m:s B1_0_m=some (.map (fT cI de c1_0)))(hB1_1:s B1_1=some (.cells [.sl true 1 c1_1.length (flat c1_1)]))(nB1_0B1_0_m:B1_0≠B1_0_m)(nB1_0B1_1:B1_0≠B1_1)(nB1_0_mB1_1:B1_0_m≠B1_1),ok (jD fuel v_0 c1_0 c1_1) (fun r=>Q [.bool r.1] (((s.set B1_0 (.cells [.mp B1_0_m])).set B1_0_m (.map (fT cI de r.2.1))).set B1_1 (.cells [.sl true 1 r.2.2.length (flat r.2.2)])))→FN Go.Proofs.Tryz.prog 197 [.agg [.int .i64 v_0.Kind,.int .i64 v_0.N,.str v_0.S.b,.sl false 4 v_0.L.length (flat v_0.L)],.fn 198 [] [.ref B1_0 0,.ref B1_1 0]] s Q:=by
 induction fuel with
 |zero=>intros;rename_i h;rw[jD]at h;exact absurd h (by rw[ok_none];exact fun h=>h)
 |succ fuel ih=>
 intro v_0 c1_0 c1_1 B1_0 B1_0_m B1_1 s Q hB1_0 hB1_0_m hB1_1 nB1_0B1_0_m nB1_0B1_1 nB1_0_mB1_1
 have hS:s=(((s.set B1_0 (.cells [.mp B1_0_m])).set B1_0_m (.map (fT cI de c1_0))).set B1_1 (.cells [.sl true 1 c1_1.length (flat c1_1)])):=by simp only[du hB1_0,du hB1_0_m,du hB1_1]
 rw[hS]
 intro h
 refine FN.of (af mix) Ia rfl (Nat.le_of_ble_eq_true rfl) ?_
 revert h
 rw[xH,vD,jD]
 repeat'(first
  |with_reducible exact cF
  |with_reducible refine bj ?_ ?_
  |with_reducible refine cJ ?_
  |with_reducible refine fun hh=>DV (B1:=B1_0) (B1_m:=B1_0_m) (B2:=B1_1) (by simp -implicitDefEqProofs only[go_sem,seval,ai nB1_0B1_0_m,ai nB1_0B1_0_m.symm,set_comm nB1_0B1_0_m,ai nB1_0B1_1,ai nB1_0B1_1.symm,set_comm nB1_0B1_1,ai nB1_0_mB1_1,ai nB1_0_mB1_1.symm,set_comm nB1_0_mB1_1,lO]<;>simp only[bp]) (by simp -implicitDefEqProofs only[go_sem,seval,ai nB1_0B1_0_m,ai nB1_0B1_0_m.symm,set_comm nB1_0B1_0_m,ai nB1_0B1_1,ai nB1_0B1_1.symm,set_comm nB1_0B1_1,ai nB1_0_mB1_1,ai nB1_0_mB1_1.symm,set_comm nB1_0_mB1_1,lO]<;>simp only[bp]) (by simp -implicitDefEqProofs only[go_sem,seval,ai nB1_0B1_0_m,ai nB1_0B1_0_m.symm,set_comm nB1_0B1_0_m,ai nB1_0B1_1,ai nB1_0B1_1.symm,set_comm nB1_0B1_1,ai nB1_0_mB1_1,ai nB1_0_mB1_1.symm,set_comm nB1_0_mB1_1,lO]<;>simp only[bp]) nB1_0B1_0_m nB1_0B1_1 nB1_0_mB1_1 (cq (show ok (na v_0 c1_0 c1_1) _ from hh) fun r1=>?_)
  |with_reducible refine fun hh=>ih (B1_0:=B1_0) (B1_0_m:=B1_0_m) (B1_1:=B1_1) (by simp -implicitDefEqProofs only[go_sem,seval,ai nB1_0B1_0_m,ai nB1_0B1_0_m.symm,set_comm nB1_0B1_0_m,ai nB1_0B1_1,ai nB1_0B1_1.symm,set_comm nB1_0B1_1,ai nB1_0_mB1_1,ai nB1_0_mB1_1.symm,set_comm nB1_0_mB1_1,lO]<;>simp only[bp]) (by simp -implicitDefEqProofs only[go_sem,seval,ai nB1_0B1_0_m,ai nB1_0B1_0_m.symm,set_comm nB1_0B1_0_m,ai nB1_0B1_1,ai nB1_0B1_1.symm,set_comm nB1_0B1_1,ai nB1_0_mB1_1,ai nB1_0_mB1_1.symm,set_comm nB1_0_mB1_1,lO]<;>simp only[bp]) (by simp -implicitDefEqProofs only[go_sem,seval,ai nB1_0B1_0_m,ai nB1_0B1_0_m.symm,set_comm nB1_0B1_0_m,ai nB1_0B1_1,ai nB1_0B1_1.symm,set_comm nB1_0B1_1,ai nB1_0_mB1_1,ai nB1_0_mB1_1.symm,set_comm nB1_0_mB1_1,lO]<;>simp only[bp]) nB1_0B1_0_m nB1_0B1_1 nB1_0_mB1_1 (cq (show ok (jD fuel (ix v_0.L t7) o8 o9) _ from hh) fun r15=>?_)
  |((with_reducible refine bf (fun((t7,o8,o9):Int×(List (Int×Bool))×(List Int))=>⟨[(1,.fn 198 [] [.ref B1_0 0,.ref B1_1 0]),(20,.sl false 4 v_0.L.length (flat v_0.L)),(21,.int .i64 (v_0.L.length:Int)),(22,.int .i64 t7)],[],(((s.set B1_0 (.cells [.mp B1_0_m])).set B1_0_m (.map (fT cI de o8))).set B1_1 (.cells [.sl true 1 o9.length (flat o9)]))⟩) ?_ ?_);(first|exact rfl|simp -implicitDefEqProofs only[go_sem,seval,ai nB1_0B1_0_m,ai nB1_0B1_0_m.symm,set_comm nB1_0B1_0_m,ai nB1_0B1_1,ai nB1_0B1_1.symm,set_comm nB1_0B1_1,ai nB1_0_mB1_1,ai nB1_0_mB1_1.symm,set_comm nB1_0_mB1_1,lO]);rintro J ⟨t7,o8,o9⟩)
  |((with_reducible refine dY (fun((o2,o3):(List (Int×Bool))×(List Int))=>⟨[],[],(((s.set B1_0 (.cells [.mp B1_0_m])).set B1_0_m (.map (fT cI de o2))).set B1_1 (.cells [.sl true 1 o3.length (flat o3)]))⟩) (fun J=>?_) ?_);rotate_left;rintro⟨o2,o3⟩)
  |simp -implicitDefEqProofs only[go_sem,seval,ai nB1_0B1_0_m,ai nB1_0B1_0_m.symm,set_comm nB1_0B1_0_m,ai nB1_0B1_1,ai nB1_0B1_1.symm,set_comm nB1_0B1_1,ai nB1_0_mB1_1,ai nB1_0_mB1_1.symm,set_comm nB1_0_mB1_1,lO])
def rL(v_0:aa):Option ((List Int)):=
 aP (jD iB v_0 [] ([]:List Int)) fun r1=>
 some r1.2.2
def xE:IC:=
 (ae [i1 1 (.cW 4 (.t 0)),i1 2 (.iR true (.c (.sl true 1 0 [])))] [1]
 (ae [i1 3 (.fJ [.sl true 1 0 []])] [1,3]
 (ae [i1 5 (.makeMap),i1 4 (.fJ [.mV]),st 1 4 5] [1,3,4]
 (ae [lm 6 4 1,i1 7 (.jr 198 [] [(.t 4),(.t 3)]),c2 8 197 6 7] [3]
 (ae [i1 9 (.gW (.t 3)),mt 2 9] [2]
 .ret)))))
def vz:List ay:=[⟨2,true,none⟩]
theorem H7:aC Go.Proofs.Tryz.prog 155 10 vz xE=true:=by kernel_rfl
theorem IZ{v_0}{s:ab}{Q:List AV→ab→Prop}:ok (rL v_0) (fun r=>Q [.sl true 1 r.length (flat r)] s)→FN Go.Proofs.Tryz.prog 155 [.agg [.int .i64 v_0.Kind,.int .i64 v_0.N,.str v_0.S.b,.sl false 4 v_0.L.length (flat v_0.L)]] s Q:=by
 intro h
 refine FN.forget ?_
 refine FN.of (af mix) H7 rfl (Nat.le_of_ble_eq_true rfl) ?_
 revert h
 rw[xE,vz,rL]
 repeat'(first
  |((have _x:=sN3;clear _x);with_reducible refine fun hh=>I2 (B1_0:=N3) (B1_0_m:=N2) (B1_1:=N1) (by simp -implicitDefEqProofs only[go_sem,seval,ai nN2N1,ai nN2N1.symm,set_comm nN2N1.symm,ai nN3N1,ai nN3N1.symm,set_comm nN3N1.symm,ai nN3N2,ai nN3N2.symm,set_comm nN3N2.symm]<;>simp only[bp]) (by simp -implicitDefEqProofs only[go_sem,seval,ai nN2N1,ai nN2N1.symm,set_comm nN2N1.symm,ai nN3N1,ai nN3N1.symm,set_comm nN3N1.symm,ai nN3N2,ai nN3N2.symm,set_comm nN3N2.symm]<;>simp only[bp]) (by simp -implicitDefEqProofs only[go_sem,seval,ai nN2N1,ai nN2N1.symm,set_comm nN2N1.symm,ai nN3N1,ai nN3N1.symm,set_comm nN3N1.symm,ai nN3N2,ai nN3N2.symm,set_comm nN3N2.symm]<;>simp only[bp]) nN3N2 nN3N1 nN2N1 (cq (show ok (jD iB v_0 [] ([]:List Int)) _ from hh) fun r1=>?_))
  |((fail_if_success (have _x:=sN1));with_reducible intro hh N1 hN1;(try simp only[cM]at hN1);have sN1:=hN1;revert hh)
  |(have _x:=sN1;clear _x;(fail_if_success (have _x:=sN2));with_reducible intro hh N2 hN2;(try simp only[cM]at hN2);obtain⟨nN2N1,sN2⟩:=hN2;revert hh)
  |(have _x:=sN2;clear _x;(fail_if_success (have _x:=sN3));with_reducible intro hh N3 hN3;(try simp only[cM]at hN3);obtain⟨nN3N2,nN3N1,sN3⟩:=hN3;revert hh)
  |with_reducible exact fun hh=>⟨_,jX.set (jX.set (jX.set (jX.refl _) (by simp[ab.set,sN1])) (by simp[ab.set,sN2])) (by simp[ab.set,sN3]),hh⟩
  |simp -implicitDefEqProofs only[go_sem,seval,ai nN2N1,ai nN2N1.symm,set_comm nN2N1.symm,ai nN3N1,ai nN3N1.symm,set_comm nN3N1.symm,ai nN3N2,ai nN3N2.symm,set_comm nN3N2.symm]
  |simp -implicitDefEqProofs only[go_sem,seval])
theorem IY{v_0}{s:ab}{r:(List Int)}(h:rL v_0=some r):FE Go.Proofs.Tryz.prog 155 [.agg [.int .i64 v_0.Kind,.int .i64 v_0.N,.str v_0.S.b,.sl false 4 v_0.L.length (flat v_0.L)]] s [.sl true 1 r.length (flat r)] s:=IZ ⟨r,h,rfl,rfl⟩
def iH(n_0:Int):Option (Bool):=some ((decide (n_0<1))||(decide (n_0>4096)))
def sd:IC:=
 (ae [cV 2 (.bool false)] [0]
 (ae [mv 3 0,bn 4 .lss 3 1,mv 5 4,c9 6 0 5 false,jx 7 5 false .gtr 6 4096,po 8 5 7,mv 2 8] [2]
 .ret))
def qF:List ay:=[⟨2,true,none⟩]
theorem Dr:aC Go.Proofs.Tryz.prog 156 9 qF sd=true:=by kernel_rfl
theorem DI{n_0}{s:ab}{Q:List AV→ab→Prop}:ok (iH n_0) (fun r=>Q [.bool r] s)→FN Go.Proofs.Tryz.prog 156 [.int .i64 n_0] s Q:=by
 intro h
 refine FN.of (af mix) Dr rfl (Nat.le_of_ble_eq_true rfl) ?_
 revert h
 rw[sd,qF,iH]
 repeat'(first
  |simp -implicitDefEqProofs only[go_sem,seval])
theorem sq{n_0}{s:ab}{r:Bool}(h:iH n_0=some r):FE Go.Proofs.Tryz.prog 156 [.int .i64 n_0] s [.bool r] s:=DI ⟨r,h,rfl,rfl⟩
def cw(s_0:(List Int)):Option (Int):=
 Hg (
  mO (
   iter (fun(t2:Int)=>
    if decide (t2<(s_0.length:Int))then
     aK (0≤t2∧t2<s_0.length)<|
     aP (iH (ix s_0 t2)) fun r4=>
     if r4 then
      some (.inr (.inr t2))
     else
      some (.inl (bz (t2+1)))
    else
     some (.inr (.inl ()))) 0) (fun(_:Unit)=>
   some (.inl ()))
  (fun(t3:Int)=>some (.inr t3))) (fun(_:Unit)=>
  some (-1))
 (fun(t1:Int)=>some t1)
theorem Nh:(ny Go.Proofs.Tryz.prog 156=true)=True:=eq_true (by kernel_rfl)
def hG:IC:=
 (ae [mi 4 0] [0,1]
 (.join [] (ae [mv 6 0,le 7 0 6,mi 8 0] [0,1,7,8]
 (.block 0 (.loop [(0,true),(1,false),(7,false),(8,false)] (ae [bt 9 .lss 8 7] [0,1,7,8,9]
 (.seq (.cond (.t 9) .skip
 (.exit 0))
 (.seq (.block 1 (ae [mv 10 8,mv 5 10] [0,1,5,7,8]
 (ae [mv 11 1,mv 12 0,mv 13 5,ia 14 lZ 12 13,ld 15 1 14,i1 16 (.b6 (.t 11) [(.t 15)])] [0,1,5,7,8,16]
 (.cond (.t 16) (ae [mv 17 5,mv 4 17] [4]
 .ret)
 .skip))))
 (.bD none [bn 18 .add 8 1,mv 8 18] [0,1,7,8])))))))
 (ae [mi 4 (-1)] [4]
 .ret)))
def gY:List ay:=[⟨4,true,none⟩]
theorem nJ:aC Go.Proofs.Tryz.prog 196 19 gY hG=true:=by kernel_rfl
theorem n0{s_0}{s:ab}{Q:List AV→ab→Prop}:ok (cw s_0) (fun r=>Q [.int .i64 r] s)→FN Go.Proofs.Tryz.prog 196 [.sl false 1 s_0.length (flat s_0),.fn 156 [] []] s Q:=by
 intro h
 refine FN.of (af mix) nJ rfl (Nat.le_of_ble_eq_true rfl) ?_
 revert h
 rw[hG,gY,cw]
 repeat'(first
  |with_reducible exact cF
  |with_reducible refine bj ?_ ?_
  |with_reducible refine cJ ?_
  |with_reducible refine ak (fun _(h:iH (ix s_0 t2)=some _)=>sq h) (fun r4=>?_)
  |((with_reducible refine bf (fun(t2:Int)=>⟨[(0,.sl false 1 s_0.length (flat s_0)),(1,.fn 156 [] []),(7,.int .i64 (s_0.length:Int)),(8,.int .i64 t2)],[],s⟩) ?_ ?_);(first|exact rfl|simp -implicitDefEqProofs only[go_sem,seval,Nh]);rintro J t2)
  |((with_reducible refine dY (fun(_:Unit)=>⟨[],[],s⟩) (fun J=>?_) ?_);rotate_left;rintro _)
  |simp -implicitDefEqProofs only[go_sem,seval,Nh])
theorem im{s_0}{s:ab}{r:Int}(h:cw s_0=some r):FE Go.Proofs.Tryz.prog 196 [.sl false 1 s_0.length (flat s_0),.fn 156 [] []] s [.int .i64 r] s:=n0 ⟨r,h,rfl,rfl⟩
def Bo:IC:=
 (ae [cV 4 (.arr 0 0 0 0)] [0,1]
 (ae [mv 8 0,mv 9 1,c2 10 196 8 9,mv 5 10] [0,1,5]
 (.seq (ae [mv 11 5,bn 12 .eql 11 (-1)] [0,1,5,12]
 (.cond (.t 12) (ae [mv 13 0,mv 4 13] [4]
 .ret)
 .skip))
 (.seq (ae [mv 14 5,bn 15 .add 14 1,mv 6 15] [0,1,5,6]
 (.block 0 (.loop [(0,false),(1,false),(5,false),(6,false)] (.seq (ae [mv 16 6,mv 17 0,le 18 0 17,bt 19 .lss 16 18] [0,1,5,6,19]
 (.cond (.t 19) .skip
 (.exit 0)))
 (.seq (.block 1 (ae [mv 22 0,mv 23 6,ia 24 lZ 22 23,ld 25 1 24,mv 7 25] [0,1,5,6,7]
 (ae [mv 26 1,mv 27 7,i1 28 (.b6 (.t 26) [(.t 27)]),no 29 28] [0,1,5,6,7,29]
 (.cond (.t 29) (ae [mv 30 0,mv 31 5,mv 32 7,ia 33 lZ 30 31,st 1 33 32] [0,1,5,6]
 (.bD none [mv 34 5,bn 35 .add 34 1,mv 5 35] [0,1,5,6]))
 .skip))))
 (.bD none [mv 20 6,bn 21 .add 20 1,mv 6 21] [0,1,5,6]))))))
 (ae [mv 36 0,mv 37 5,px 38 1 36 37,i0 (.kZ lZ (.t 38))] [0,5]
 (ae [mv 39 0,mv 40 5,Mz 41 1 39 40,mv 4 41] [4]
 .ret))))))
def zb:List ay:=[⟨4,true,none⟩]
theorem JS:aC Go.Proofs.Tryz.prog 154 42 zb Bo=true:=by kernel_rfl
theorem EW{T:Type}[aH T]{w:World}{R R':Nat→Nat}{b cap f:Nat}{l:List T}{vs:Array Value}(mono:∀a u,VR w R a u→VR w R' a u)(hv:∀u,VR w R (.arr b 0 l.length cap) u→VR w R' (.sl false 1 l.length (flat l)) u)
 (ha:kF w R [.arr b 0 l.length cap,.fn f [] []] vs):kF w R' [.sl false 1 l.length (flat l),.fn f [] []] vs:=by
 refine⟨ha.1,fun j a v hj hvs=>?_⟩
 match j,hj with
 |0,hj=>cases hj;exact hv v (ha.2 0 _ v rfl hvs)
 |1,hj=>cases hj;exact mono _ _ (ha.2 1 _ v rfl hvs)
theorem w9{b cap:Nat}{l:List Int}{sp:List AV}{r:Int}{s:ab}{Q:List AV→ab→Prop}(hs:s b=some (.cells (flat l++sp)))(hn:l.length≤cap)(h:cw l=some r)(hq:Q [.int .i64 r] s):
 FN Go.Proofs.Tryz.prog 196 [.arr b 0 l.length cap,.fn 156 [] []] s Q:=by
 refine FN.borrow b (l.length*1) (args':=[.sl false 1 l.length (flat l),.fn 156 [] []]) (FE.app (im h) ⟨rfl,hq⟩) fun G w vs hst ha=>?_
 refine EW (fun a u h=>h.mono (fun i=>?_) fun _ _ _=>rfl) (fun u hu=>En hst (ao l) hn (aD l) (fun _=>⟨sp,hs⟩) hu (by decide)) ha
 show G.R i≤if i=b∧b<w.heap.size then l.length*1 else G.R i
 split
 ·rename_i e
  obtain⟨q2,q3,_⟩:=hst b _ hs
  rw[e.1,q3];exact Nat.zero_le _
 ·exact Nat.le_refl _
theorem Sr{s:ab}{b:Nat}{o:SO}(h:s b=some o):s.set b o=s:=by
 funext c
 unfold ab.set
 split
 ·rename_i e;subst e;rw[h]
 ·rfl
def gone(x:Int):Bool:=(decide (x<1))||(decide (x>4096))
theorem VC(x:Int)(s:ab):FE Go.Proofs.Tryz.prog 156 [.int .i64 x] s [.bool (gone x)] s:=sq rfl
theorem OV{b cap i:Nat}{l:List Int}{sp:List AV}{s:ab}{Q:List AV→ab→Prop}(hs:s b=some (.cells (flat l++sp)))(hl:(flat l++sp).length=cap*1)(hn:l.length≤cap)(hbig:(l.length:Int)≤9223372036854775807)
 (hidx:cw l=some (i:Int))(hi:i<l.length)(hk:(l.take (i+1)).filter (fun x=>!gone x)=l.take i)
 (hq:∀sp',(flat (l.filter (fun x=>!gone x))++sp').length=cap*1→Q [.arr b 0 (l.filter (fun x=>!gone x)).length cap] (s.set b (.cells (flat (l.filter (fun x=>!gone x))++sp')))):
 FN Go.Proofs.Tryz.prog 154 [.arr b 0 l.length cap,.fn 156 [] []] s Q:=by
 refine FN.of (af mix) JS rfl (Nat.le_of_ble_eq_true rfl) ?_
 rw[Bo,zb]
 simp -implicitDefEqProofs only[go_sem,start,aI,aV,ct,cX,cK,cT,Nat.reduceBEq,Nat.reduceAdd,Nat.reduceMul,Nat.reduceLeDiff,Nat.reduceEqDiff,Nat.reduceBNe,Nat.ble_eq,UInt8.reduceToNat,UInt32.reduceToNat]
 refine w9 hs hn hidx ?_
 simp -implicitDefEqProofs only[go_sem,start,aI,aV,ct,cX,cK,cT,Nat.reduceBEq,Nat.reduceAdd,Nat.reduceMul,Nat.reduceLeDiff,Nat.reduceEqDiff,Nat.reduceBNe,Nat.ble_eq,UInt8.reduceToNat,UInt32.reduceToNat]
 have e1:(((i:Int))==-1)=false:=by rw[beq_eq_false_iff_ne];omega
 rw[e1]
 refine⟨fun h=>(by cases h),fun _=>?_⟩
 have w1:bz ((i:Int)+1)=((i+1:Nat):Int):=by rw[aS (by omega) (by omega)];omega
 rw[w1]
 refine⟨fun τ=>∃(a j:Nat)(l':List Int),τ=⟨[(0,.arr b 0 l.length cap),(1,.fn 156 [] []),(5,.int .i64 (a:Int)),(6,.int .i64 (j:Int))],[],s.set b (.cells (flat l'++sp))⟩∧l'.length=l.length∧a<j∧j≤l.length∧l'.take a=(l.take j).filter (fun x=>!gone x)∧l'.drop j=l.drop j∧a=((l.take j).filter (fun x=>!gone x)).length,
  fun τ=>match look τ.e 6 with|.int _ j=>l.length -j.toNat|_=>0,?_,?_⟩
 ·refine⟨i,i+1,l,?_,rfl,by omega,by omega,hk.symm,rfl,?_⟩
  ·rw[Sr hs];rfl
  ·rw[hk];simp;omega
 ·rintro τ ⟨a,j,l',rfl,h1,h2,h3,h4,h5,h6⟩
  have hlen:(flat l'++sp).length=cap*1:=by rw[←hl,List.length_append,List.length_append,ao,ao,h1]
  simp -implicitDefEqProofs only[go_sem,start,aI,aV,ct,cX,cK,cT,Nat.reduceBEq,Nat.reduceAdd,Nat.reduceMul,Nat.reduceLeDiff,Nat.reduceEqDiff,Nat.reduceBNe,Nat.ble_eq,UInt8.reduceToNat,UInt32.reduceToNat,bS]
  refine⟨fun hj=>⟨⟨by omega,of_decide_eq_true hj⟩,?_⟩,fun hj=>⟨by omega,?_⟩⟩
  ·have hj:=of_decide_eq_true hj
   have hj':j<l.length:=by omega
   have hx:∃x,l.drop j=x::l.drop (j+1)∧(l.take (j+1)).filter (fun x=>!gone x)=(l.take j).filter (fun x=>!gone x)++(if gone x then[]else[x]):=by
    refine⟨l[j],List.drop_eq_getElem_cons hj',?_⟩
    rw[List.take_succ_eq_append_getElem hj',List.filter_append]
    cases hg:gone l[j]<;>simp[hg]
   obtain⟨x,hx1,hx2⟩:=hx
   have hd:decide (j*1+1≤(flat l').length+sp.length)=true:=decide_eq_true (by rw[ao,h1];show j*1+1≤l.length*1+_;omega)
   have hv:views (AB.sub (flat l'++sp) (j*1) 1)=[.int .i64 x]:=by
    have:=fH l' sp 1 j 1 rfl (by omega)
    rw[Nat.one_mul]at this
    rw[this,h5,hx1];rfl
   rw[hd,hv]
   simp -implicitDefEqProofs only[go_sem,start,aI,aV,ct,cX,cK,cT,Nat.reduceBEq,Nat.reduceAdd,Nat.reduceMul,Nat.reduceLeDiff,Nat.reduceEqDiff,Nat.reduceBNe,Nat.ble_eq,UInt8.reduceToNat,UInt32.reduceToNat]
   refine⟨(by kernel_rfl),FE.app (VC x _) ?_⟩
   have w2:bz ((j:Int)+1)=((j+1:Nat):Int):=by rw[aS (by omega) (by omega)];omega
   have w3:bz ((a:Int)+1)=((a+1:Nat):Int):=by rw[aS (by omega) (by omega)];omega
   simp -implicitDefEqProofs only[go_sem,start,aI,aV,ct,cX,cK,cT,Nat.reduceBEq,Nat.reduceAdd,Nat.reduceMul,Nat.reduceLeDiff,Nat.reduceEqDiff,Nat.reduceBNe,Nat.ble_eq,UInt8.reduceToNat,UInt32.reduceToNat,bS,w2,w3]
   have st:=fG l' [x] sp 1 a rfl (by simp;omega)
   have d1:l'.drop (j+1)=l.drop (j+1):=by rw[←List.drop_drop,←List.drop_drop,h5]
   have ht:(l'.take a++[x]).length=a+1:=by simp;omega
   refine⟨fun hg=>⟨⟨by omega,by omega⟩,by rw[ao,h1];show a*1+1≤l.length*1+_;omega,⟨a+1,j+1,l'.take a++[x]++l'.drop (a+1),?_,?_,by omega,by omega,?_,?_,?_⟩,by omega⟩,
    fun hg=>⟨⟨a,j+1,l',rfl,h1,by omega,by omega,?_,d1,?_⟩,by omega⟩⟩
   ·rw[show setAt (flat l'++sp) (a*1) [AV.int .i64 x]=_ from st];rfl
   ·rw[List.length_append,ht,List.length_drop];omega
   ·rw[List.take_append_of_le_length (by omega),List.take_of_length_le (by omega),hx2,h4]
    have:gone x=false:=by cases h:gone x<;>simp_all
    simp[this]
   ·rw[List.drop_append,List.drop_of_length_le (by omega),List.nil_append,ht,List.drop_drop,show a+1+(j+1 -(a+1))=j+1 by omega,d1]
   ·have:gone x=false:=by cases h:gone x<;>simp_all
    rw[hx2,List.length_append,←h6,this];rfl
   ·have:gone x=true:=by cases h:gone x<;>simp_all
    rw[h4,hx2,this];simp
   ·have:gone x=true:=by cases h:gone x<;>simp_all
    rw[hx2,this,h6];simp
  ·have hj:=of_decide_eq_false hj
   obtain rfl:j=l.length:=by omega
   rw[eN (by omega)]
   have hsp:(flat l'++sp).length=cap:=by omega
   refine yB rfl bS (by
    rw[hsp]
    show 0+a*1+(l.length -a)*1≤cap
    omega) ?_
   have hz:(List.replicate (l.length -a) [AV.int .i64 0]).flatten=flat (List.replicate (l.length -a) (0:Int)):=by rw[fm];rfl
   have st:=fG l' (List.replicate (l.length -a) (0:Int)) sp 1 a rfl (by simp;omega)
   have e3:l'.drop (a+(List.replicate (l.length -a) (0:Int)).length)=[]:=by rw[List.drop_eq_nil_iff];simp;omega
   rw[e3,List.append_nil,h4,List.take_length,bO,List.append_assoc]at st
   rw[List.take_length]at h6
   rw[Nat.zero_add,hz,st]
   generalize hF:l.filter (fun x=>!gone x)=F at hq h6
   have hq':=hq (flat (List.replicate (l.length -a) (0:Int))++sp) (by
    rw[List.length_append,List.length_append,ao,ao,List.length_replicate,←h6]
    rw[List.length_append,ao,h1]at hsp
    have q1:aH.w Int=1:=rfl
    rw[q1]at hsp⊢
    omega)
   rw[←h6]at hq'
   generalize flat (List.replicate (l.length -a) (0:Int))++sp=sp' at hq'
   simp -implicitDefEqProofs only[go_sem,start,aI,aV,ct,cX,cK,cT,Nat.reduceBEq,Nat.reduceAdd,Nat.reduceMul,Nat.reduceLeDiff,Nat.reduceEqDiff,Nat.reduceBNe,Nat.ble_eq,UInt8.reduceToNat,UInt32.reduceToNat]
   exact⟨⟨by omega,by omega,by omega⟩,hq'⟩
theorem Cw{b off n cap:Nat}{s:ab}{Q:List AV→ab→Prop}(hx:∀Q:List AV→ab→Prop,Q [.int .i64 (-1)] s→FN Go.Proofs.Tryz.prog 196 [.arr b off n cap,.fn 156 [] []] s Q)(hq:Q [.arr b off n cap] s):
 FN Go.Proofs.Tryz.prog 154 [.arr b off n cap,.fn 156 [] []] s Q:=by
 refine FN.of (af mix) JS rfl (Nat.le_of_ble_eq_true rfl) ?_
 rw[Bo,zb]
 simp -implicitDefEqProofs only[go_sem,seval]
 refine hx _ ?_
 simp -implicitDefEqProofs only[go_sem,seval]
 exact⟨fun _=>hq,fun h=>(by cases h)⟩
theorem JK(l:List Int)(hb:l.length<4611686018427387904):
 cw l=some (match l.findIdx? gone with|some i=>(i:Int)|none=>-1):=by
 unfold cw
 have step:∀k(hk:k<l.length),iH (ix l (k:Int))=some (gone l[k]):=fun k hk=>by
  have e:ix l (k:Int)=l[k]:=FL (i:=(k:Int)) hk
  rw[e];rfl
 cases h:l.findIdx? gone with
 |none=>
  rw[List.findIdx?_eq_none_iff]at h
  refine gQ (z:=.inl ()) (eV (z:=.inl ()) (eA l.length hb (fun k hk=>?_) ?_) rfl) rfl
  ·refine cC (decide_eq_true (by omega)) (bc ⟨by omega,by omega⟩ (cg (step k hk) ?_))
   rw[h _ (List.getElem_mem hk)];rfl
  ·exact bP (by simp) rfl
 |some i=>
  rw[List.findIdx?_eq_some_iff_getElem]at h
  obtain⟨hi,h1,h2⟩:=h
  refine gQ (z:=.inr (i:Int)) (eV (z:=.inr (i:Int)) (eA i (by omega) (fun k hk=>?_) ?_) rfl) rfl
  ·refine cC (decide_eq_true (by omega)) (bc ⟨by omega,by omega⟩ (cg (step k (by omega)) ?_))
   have:=h2 k hk
   rw[Bool.not_eq_true]at this
   rw[this];rfl
  ·refine cC (decide_eq_true (by omega)) (bc ⟨by omega,by omega⟩ (cg (step i hi) ?_))
   rw[h1];rfl
theorem FN.Tu{P:Program}{f:FuncId}{args:List AV}{s s2:ab}{Q:List AV→ab→Prop}{sz:Nat}(hq:Q [.sl false sz 0 []] s2)(h:FN P f args s fun rs s'=>(∃b off,rs=[.arr b off 0 0])∧Sub s2 s'):FN P f args s Q:=by
 refine h.conv fun rs s'⟨⟨b,off,e⟩,hsub⟩ G w v hg hs hr=>?_
 subst e
 refine⟨_,_,G,hq,kW.refl G,hg,hs.sub hsub,?_⟩
 rcases VR.bQ hr.1 with e|⟨_,_,e⟩
 ·exact⟨by rw[e];exact .sle sz _ _,trivial⟩
 ·exact⟨by rw[e];exact .slnil false sz,trivial⟩
theorem SS{w:World}{R:Nat→Nat}{b off sz:Nat}{v:Value}(hv:VR w R (.arr b off 0 0) v):VR w R (.sl false sz 0 []) v:=by
 rcases VR.bQ hv with e|⟨_,_,e⟩
 ·rw[e];exact .sle sz _ _
 ·rw[e];exact .slnil false sz
def kept(l:List Int):List Int:=l.filter fun x=>!gone x
theorem RA{l:List Int}{s:ab}{Q:List AV→ab→Prop}(hb:l.length*8≤room)(hq:∀o,Q [.sl o 1 (kept l).length (flat (kept l))] s){b cap:Nat}{sp:List AV}(h0:s b=none)(hc:0<cap)(hn:l.length≤cap)(hl:(flat l++sp).length=cap*1):
 FN Go.Proofs.Tryz.prog 154 [.arr b 0 l.length cap,.fn 156 [] []] (s.set b (.cells (flat l++sp))) Q:=by
 have hb':l.length<4611686018427387904:=by unfold room at hb;omega
 have hidx:=JK l hb'
 refine FN.GK (ao (kept l)) (aD _) (hq true) ?_
 cases h:l.findIdx? gone with
 |none=>
  rw[h]at hidx
  rw[List.findIdx?_eq_none_iff]at h
  have e:kept l=l:=List.filter_eq_self.2 fun x hx=>by rw[h x hx];rfl
  rw[e]
  refine Cw (fun Q hQ=>w9 bS hn hidx hQ) (.inl ⟨b,cap,sp,rfl,bS,hc,hn,hl,?_⟩)
  rw[jb h0];exact Sub.refl s
 |some i=>
  rw[h]at hidx
  rw[List.findIdx?_eq_some_iff_getElem]at h
  obtain⟨hi,h1,h2⟩:=h
  have hk0:(l.take i).filter (fun x=>!gone x)=l.take i:=List.filter_eq_self.2 fun x hx=>by
   obtain⟨j,hj,rfl⟩:=List.mem_iff_getElem.1 hx
   rw[List.length_take]at hj
   rw[List.getElem_take]
   have:=h2 j (by omega)
   rw[Bool.not_eq_true]at this
   rw[this];rfl
  refine OV bS hl hn (by omega) hidx hi ?_ fun sp' hsp=>.inl ⟨b,cap,sp',rfl,bS,hc,?_,hsp,?_⟩
  ·rw[List.take_succ_eq_append_getElem hi,List.filter_append,hk0]
   simp[h1]
  ·exact Nat.le_trans (List.length_filter_le _ _) hn
  ·rw[set_set,jb h0];exact Sub.refl s
theorem OW{s:ab}{Q:List AV→ab→Prop}(hq:∀o,Q [.sl o 1 0 []] s){b off:Nat}:
 FN Go.Proofs.Tryz.prog 154 [.arr b off 0 0,.fn 156 [] []] s Q:=
 FN.Tu (hq false) (Cw (fun Q hQ=>FN.args (FE.app (im (s_0:=[]) (by rw[JK [] (by decide)];rfl)) hQ) fun G w vs _ ha=>⟨ha.1,fun j a v hj hvs=>by
  match j,hj with
  |0,hj=>cases hj;exact SS (ha.2 0 _ v rfl hvs)
  |1,hj=>cases hj;exact ha.2 1 _ v rfl hvs⟩) ⟨⟨b,off,rfl⟩,Sub.refl s⟩)
def xm:IC:=
 (ae [i1 1 (.cW 4 (.t 0)),i1 2 (.iR true (.c (.sl true 1 0 [])))] [1]
 (ae [lm 3 4 1,c1 4 155 3,i1 5 (.tq 154 4 [(.t 4),(.c (.fn 156 [] []))]),mt 2 5] [2]
 .ret))
def vb:List ay:=[⟨2,false,none⟩]
theorem HL:aC Go.Proofs.Tryz.prog 102 6 vb xm=true:=by kernel_rfl
def gu(v_0:aa):Option (List Int):=aP (rL v_0) fun l=>aK (l.length*8≤room)<|some (kept l)
theorem JH{l:List Int}{x:AV}(h:x∈flat l):∃y,x=.int .i64 y:=by
 unfold flat at h
 rw[List.mem_flatten]at h
 obtain⟨c,hc,hx⟩:=h
 obtain⟨y,_,rfl⟩:=List.mem_map.1 hc
 exact⟨y,List.mem_singleton.1 hx⟩
theorem Iq{v_0:aa}{s:ab}{Q:List AV→ab→Prop}(h:ok (gu v_0) fun r=>Q [.sl false 1 r.length (flat r)] s):FN Go.Proofs.Tryz.prog 102 [.agg [.int .i64 v_0.Kind,.int .i64 v_0.N,.str v_0.S.b,.sl false 4 v_0.L.length (flat v_0.L)]] s Q:=by
 refine FN.of (af mix) HL rfl (Nat.le_of_ble_eq_true rfl) ?_
 unfold gu at h
 rw[dm]at h
 obtain⟨l,hl,h⟩:=h
 rw[df,az]at h
 obtain⟨hr,hq⟩:=h
 rw[xm,vb]
 simp -implicitDefEqProofs only[go_sem,seval]
 refine FN.ZD (List.all_eq_true.2 fun x hx=>?_) (fun x hx=>?_) (by decide) (IY hl) ?_
 ·obtain⟨y,rfl⟩:=JH hx;rfl
 ·obtain⟨y,hy⟩:=JH (List.mem_of_getElem? hx)
  injection hy with h1;cases h1
 simp -implicitDefEqProofs only[go_sem,seval]
 refine⟨fun b cap sp h0 hc hn hlen _ _=>?_,fun h0 b off=>?_⟩
 ·simp -implicitDefEqProofs only[go_sem,seval,bS]
  refine RA hr (fun o=>?_) h0 hc hn hlen
  simp -implicitDefEqProofs only[go_sem,seval]
  exact hq
 ·have e:l=[]:=List.eq_nil_of_length_eq_zero h0
  subst e
  simp -implicitDefEqProofs only[go_sem,seval]
  refine OW (fun o=>?_)
  simp -implicitDefEqProofs only[go_sem,seval]
  exact hq
theorem py{v_0:aa}{s:ab}{r:List Int}(h:gu v_0=some r):FE Go.Proofs.Tryz.prog 102 [.agg [.int .i64 v_0.Kind,.int .i64 v_0.N,.str v_0.S.b,.sl false 4 v_0.L.length (flat v_0.L)]] s [.sl false 1 r.length (flat r)] s:=Iq ⟨r,h,rfl,rfl⟩
def jK(v_0:aa)(given_1:aa):Option ((List Int)):=
 aP (eU v_0 (aA.mk [80,97,114,101,110,116])) fun r1=>
 aP (gu r1) fun r2=>
 aP (cZ (cP.mk ([]:List Int) []) r2) fun r3=>
 aP (gu given_1) fun r4=>
 aP (cZ r3 r4) fun r5=>
 some r5.l_
def tV:IC:=
 (ae [i1 2 (.cW 4 (.t 0)),i1 3 (.cW 4 (.t 1)),i1 4 (.iR true (.c (.sl true 1 0 [])))] [2,3]
 (ae [i1 6 (.makeMap),i1 7 (.build [.arr 0 0 0 0,.mV] [(1,1,(.t 6))]),i1 8 (.Er 1 2 (.t 7)),mv 5 8] [2,3,5]
 (ae [mv 9 5,lm 10 4 2,i1 11 (.call 53 [(.t 10),(.c (.str [80,97,114,101,110,116]))]),c1 12 102 11,c2 13 100 9 12] [3,5]
 (ae [mv 14 5,lm 15 4 3,c1 16 102 15,c2 17 100 14 16] [5]
 (ae [mv 18 5,nc 19 18,fa 20 0 19,i1 21 (.gW (.t 20)),mt 4 21] [4]
 .ret)))))
def sG:List ay:=[⟨4,true,none⟩]
theorem Fw:aC Go.Proofs.Tryz.prog 101 22 sG tV=true:=by kernel_rfl
theorem Gi{v_0 given_1}{s:ab}{Q:List AV→ab→Prop}:ok (jK v_0 given_1) (fun r=>Q [.sl true 1 r.length (flat r)] s)→FN Go.Proofs.Tryz.prog 101 [.agg [.int .i64 v_0.Kind,.int .i64 v_0.N,.str v_0.S.b,.sl false 4 v_0.L.length (flat v_0.L)],.agg [.int .i64 given_1.Kind,.int .i64 given_1.N,.str given_1.S.b,.sl false 4 given_1.L.length (flat given_1.L)]] s Q:=by
 intro h
 refine FN.forget ?_
 refine FN.of (af mix) Fw rfl (Nat.le_of_ble_eq_true rfl) ?_
 revert h
 rw[tV,sG,jK]
 repeat'(first
  |with_reducible refine ak (fun _(h:eU v_0 (aA.mk [80,97,114,101,110,116])=some _)=>pI h) (fun r1=>?_)
  |with_reducible refine ak (fun _(h:gu r1=some _)=>py h) (fun r2=>?_)
  |with_reducible refine fun hh=>fQ (B0:=N2) (B0_in_:=N1) (by simp -implicitDefEqProofs only[go_sem,seval,ai nN2N1,ai nN2N1.symm,set_comm nN2N1.symm]<;>simp only[bp]) (by simp -implicitDefEqProofs only[go_sem,seval,ai nN2N1,ai nN2N1.symm,set_comm nN2N1.symm]<;>simp only[bp]) nN2N1 (cq (show ok (cZ (cP.mk ([]:List Int) []) r2) _ from hh) fun r3=>?_)
  |with_reducible refine ak (fun _(h:gu given_1=some _)=>py h) (fun r4=>?_)
  |with_reducible refine fun hh=>fQ (B0:=N2) (B0_in_:=N1) (by simp -implicitDefEqProofs only[go_sem,seval,ai nN2N1,ai nN2N1.symm,set_comm nN2N1.symm]<;>simp only[bp]) (by simp -implicitDefEqProofs only[go_sem,seval,ai nN2N1,ai nN2N1.symm,set_comm nN2N1.symm]<;>simp only[bp]) nN2N1 (cq (show ok (cZ r3 r4) _ from hh) fun r5=>?_)
  |((fail_if_success (have _x:=sN1));with_reducible intro hh N1 hN1;(try simp only[cM]at hN1);have sN1:=hN1;revert hh)
  |(have _x:=sN1;clear _x;(fail_if_success (have _x:=sN2));with_reducible intro hh N2 hN2;(try simp only[cM]at hN2);obtain⟨nN2N1,sN2⟩:=hN2;revert hh)
  |with_reducible exact fun hh=>⟨_,jX.set (jX.set (jX.refl _) (by simp[ab.set,sN1])) (by simp[ab.set,sN2]),hh⟩
  |simp -implicitDefEqProofs only[go_sem,seval,ai nN2N1,ai nN2N1.symm,set_comm nN2N1.symm]
  |simp -implicitDefEqProofs only[go_sem,seval])
theorem Gg{v_0 given_1}{s:ab}{r:(List Int)}(h:jK v_0 given_1=some r):FE Go.Proofs.Tryz.prog 101 [.agg [.int .i64 v_0.Kind,.int .i64 v_0.N,.str v_0.S.b,.sl false 4 v_0.L.length (flat v_0.L)],.agg [.int .i64 given_1.Kind,.int .i64 given_1.N,.str given_1.S.b,.sl false 4 given_1.L.length (flat given_1.L)]] s [.sl true 1 r.length (flat r)] s:=Gi ⟨r,h,rfl,rfl⟩
end Go.AB
end
