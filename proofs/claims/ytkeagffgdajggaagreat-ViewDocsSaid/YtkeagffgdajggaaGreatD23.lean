/- A part of the proof. -/
import Derived.Test.YtkeagffgdajggaaGreatD13
import Derived.Test.YtkeagffgdajggaaGreatD22
import Derived.Test.YtkeagffgdajggaaGreatD15
set_option linter.unusedSimpArgs false
set_option linter.unusedVariables false
section
set_option maxRecDepth 4000
namespace Go.AB
open Go
open Go.Proofs.Tryz (prog)
attribute[-go_sem] cu dj bO ct Nat.add_zero mV bS
structure Cg where
 At:Int
 Gen:Int
 Used:Bool
 deriving DecidableEq
instance:aP Cg:=⟨3,fun x=>[.int .i64 x.At,.int .i64 x.Gen,.bool x.Used],(Cg.mk 0 0 false),by decide,fun _=>rfl,fun _=>rfl⟩
structure Ch where
 afV:Int
 Entries:(List Cg)
instance:aP Ch:=⟨2,fun x=>[.int .i64 x.afV,sF 3 x.Entries],(Ch.mk 0 []),by decide,fun _=>rfl,fun _=>rfl⟩
structure Cc where
 acb:(List Ch)
 Trailer:aa
instance:aP Cc:=⟨5,fun x=>[sF 2 x.acb,.int .i64 x.Trailer.Kind,.int .i64 x.Trailer.N,.str x.Trailer.S.b,sF 4 x.Trailer.L],(Cc.mk [] (aa.mk 0 0 (ar.mk []) [])),by decide,fun _=>rfl,fun _=>rfl⟩
def my(f_0:nz)(p_1:Int):Option (bL×Int×Int):=
 aJ (jU f_0 p_1) fun r1=>
 if r1.2.2 !=0 then
  some ((bL.mk ([]:List af) (aa.mk 0 0 (ar.mk []) ([]:List aa))),r1.2.1,r1.2.2)
 else
  aJ (fL f_0 r1.1) fun r2=>
  if r2.2.2.2 !=0 then
   some ((bL.mk ([]:List af) (aa.mk 0 0 (ar.mk []) ([]:List aa))),r2.2.2.1,r2.2.2.2)
  else
   aJ (jf r2.1 r2.2.1 r1.1.ag) fun r3=>
   some (r3,0,0)
def GO:IC:=
 (ae [i1 4 (.an [.sl true 6 0 [],.int .i64 0,.int .i64 0,.str [],.sl true 4 0 []]),mi 5 0,mi 6 0] [0,1,4]
 (ae [mv 13 0,mv 14 1,c2 15 46 13 14,gi 12 15,ex 16 12 0,ex 17 12 1,ex 18 12 2,i1 7 (.an Fz),st 6 7 16,mv 8 17,mv 9 18] [0,4,7,8,9]
 (.seq (ae [mv 19 9,bn 20 .neq 19 0] [0,4,7,8,9,20]
 (.cond (.t 20) (ae [i1 21 (.build [.sl true 6 0 [],.int .i64 0,.int .i64 0,.str [],.sl true 4 0 []] []),mv 22 8,mv 23 9,st 5 4 21,mv 5 22,mv 6 23] [4,5,6]
 .ret)
 .skip))
 (ae [mv 25 0,lm 26 6 7,c2 27 47 25 26,gi 24 27,ex 28 24 0,ex 29 24 1,ex 30 24 2,ex 31 24 3,mt 10 28,mt 11 29,mv 8 30,mv 9 31] [4,7,8,9,10,11]
 (.seq (ae [mv 32 9,bn 33 .neq 32 0] [4,7,8,9,10,11,33]
 (.cond (.t 33) (ae [i1 34 (.build [.sl true 6 0 [],.int .i64 0,.int .i64 0,.str [],.sl true 4 0 []] []),mv 35 8,mv 36 9,st 5 4 34,mv 5 35,mv 6 36] [4,5,6]
 .ret)
 .skip))
 (ae [mt 37 10,mt 38 11,fa 39 2 7,lm 40 4 39,c3 41 23 37 38 40,st 5 4 41,mi 5 0,mi 6 0] [4,5,6]
 .ret))))))
theorem R6:aE prog 17 42 [⟨4,false,some (5,true)⟩,⟨5,true,none⟩,⟨6,true,none⟩] GO=true:=by kernel_rfl
theorem SX{f_0 p_1}{s:ab}{Q:List AV->ab->Prop}(va0:dw s f_0):ok (my f_0 p_1) (fun r=>Q [.agg [sF 6 r.1.ak,.int .i64 r.1.ag.Kind,.int .i64 r.1.ag.N,.str r.1.ag.S.b,sF 4 r.1.ag.L],.int .i64 r.2.1,.int .i64 r.2.2] s)->FN prog 17 [.ref f_0.B 0,.int .i64 p_1] s Q:=by
 intro h
 refine FO R6 rfl rfl ?_
 revert h
 rw[GO,my]
 repeat'(first
  |(with_reducible first|exact bW|refine bj ?_ ?_|refine ch ?_|refine ah (fun _(h:jU f_0 p_1=some _)=>N8 (dw.mono (by assumption) (by repeat'(first|exact Sub.refl _|refine Sub.set ?_ ?_|assumption|(simp[ab.set, *];done)))) h) (fun r1=>?_)|refine ah (fun _(h:fL f_0 r1.1=some _)=>C8 (dw.mono (by assumption) (by repeat'(first|exact Sub.refl _|refine Sub.set ?_ ?_|assumption|(simp[ab.set, *];done)))) h) (fun r2=>?_)|refine ah (fun _(h:jf r2.1 r2.2.1 r1.1.ag=some _)=>Dv h) (fun r3=>?_))
  |simp -implicitDefEqProofs only[go_sem,seval])
theorem Ai{f_0 p_1}{s:ab}{r:bL×Int×Int}(va0:dw s f_0)(h:my f_0 p_1=some r):FE prog 17 [.ref f_0.B 0,.int .i64 p_1] s [.agg [sF 6 r.1.ak,.int .i64 r.1.ag.Kind,.int .i64 r.1.ag.N,.str r.1.ag.S.b,sF 4 r.1.ag.L],.int .i64 r.2.1,.int .i64 r.2.2] s:=SX va0 ⟨r,h,rfl,rfl⟩
def cH(uB:(List UInt8)):Option (UInt32×UInt32):=
 jn (
  iter (fun((PF,i4):UInt32×Int)=>
   if decide (i4>=0)then
    aB (0<=i4/\i4<uB.length)<|
    some (.inl (nq (((nq ((PF.toNat:Int)*16777619)).toNat:Int)+((nq (((ix uB i4).toNat:Int))).toNat:Int)),bd (i4 -1)))
   else
    some (.inr PF)) (0,bd ((uB.length:Int) -1))) fun(Gt:UInt32)=>
 jn (
  iter (fun((U4,SS,i11):UInt32×UInt32×Int)=>
   if decide (i11>0)then
    jn (
     if(bd (afZ .i64 i11 1))!=0 then
      some (nq ((U4.toNat:Int)*(SS.toNat:Int)))
     else
      some U4) fun(TO:UInt32)=>
    some (.inl (TO,nq ((SS.toNat:Int)*(SS.toNat:Int)),ait .i64 i11 1))
   else
    some (.inr U4)) (1,16777619,(uB.length:Int))) fun(Z7:UInt32)=>
 some (Gt,Z7)
def fS:IC:=
 (ae [cZ 2 (.int .u32 0),cZ 3 (.int .u32 0)] [0]
 (ae [cZ 4 (.int .u32 0)] [0,4]
 (.join [(0,true),(4,false)] (ae [mv 9 0,le 10 0 9,bn 11 .sub 10 1,mv 5 11] [0,4,5]
 (.block 0 (.loop [(0,true),(4,false),(5,false)] (.seq (ae [mv 12 5,bn 13 .geq 12 0] [0,4,5,13]
 (.cond (.t 13) .skip
 (.exit 0)))
 (.seq (.block 1 (.bJ none [mv 16 4,i1 17 (.bin .mul (.t 16) (.c (.int .u32 16777619))),mv 18 0,mv 19 5,ia 20 [.int .u8 0] 18 19,ld 21 1 20,i1 22 (.ot .u32 (.t 21)),bt 23 .add 17 22,mv 4 23] [0,4,5]))
 (.bJ none [mv 14 5,bn 15 .sub 14 1,mv 5 15] [0,4,5]))))))
 (ae [cZ 6 (.int .u32 1),cZ 7 (.int .u32 16777619)] [0,4,6,7]
 (.join [(4,false),(6,false)] (ae [mt 24 0,le 25 0 24,mv 8 25] [4,6,7,8]
 (.block 2 (.loop [(4,false),(6,false),(7,false),(8,false)] (.seq (ae [mv 26 8,bn 27 .gtr 26 0] [4,6,7,8,27]
 (.cond (.t 27) .skip
 (.exit 2)))
 (.seq (.block 3 (.join [(4,false),(6,false),(7,false),(8,false)] (ae [mv 30 8,bn 31 .and 30 1,bn 32 .neq 31 0] [4,6,7,8,32]
 (.cond (.t 32) (.bJ none [mv 33 6,mv 34 7,bt 35 .mul 33 34,mv 6 35] [4,6,7,8])
 .skip))
 (.bJ none [mv 36 7,mv 37 7,bt 38 .mul 36 37,mv 7 38] [4,6,7,8])))
 (.bJ none [mv 28 8,i1 29 (.bin .shr (.t 28) (.c (.int .u64 1))),mv 8 29] [4,6,7,8]))))))
 (ae [mv 39 4,mv 40 6,mv 2 39,mv 3 40] [2,3]
 .ret))))))
theorem kJ:aE prog 267 41 [⟨2,true,none⟩,⟨3,true,none⟩] fS=true:=by kernel_rfl
theorem kI{uB}{s:ab}{Q:List AV->ab->Prop}:ok (cH uB) (fun r=>Q [.int .u32 r.1.toNat,.int .u32 r.2.toNat] s)->FN prog 267 [sF 1 uB] s Q:=by
 intro h
 refine FO kJ rfl rfl ?_
 revert h
 rw[fS,cH]
 repeat'(first
  |(with_reducible first|exact bW|refine bj ?_ ?_|refine ch ?_)
  |((with_reducible refine aY (fun((PF,i4):UInt32×Int)=>⟨[(0,sF 1 uB),(4,.int .u32 PF.toNat),(5,.int .i64 i4)],[],s⟩) ?_ ?_);(first|exact rfl|simp -implicitDefEqProofs only[go_sem,seval]);rintro J ⟨PF,i4⟩)
  |((with_reducible refine bT (live:=[(0,true),(4,false)]) (fun(Gt:UInt32)=>⟨[(0,sF 1 uB),(4,.int .u32 Gt.toNat)],[],s⟩) (fun J=>?_) ?_);rotate_left;rintro Gt)
  |((with_reducible refine bT (live:=[(4,false),(6,false),(7,false),(8,false)]) (fun(TO:UInt32)=>⟨[(4,.int .u32 Gt.toNat),(6,.int .u32 TO.toNat),(7,.int .u32 SS.toNat),(8,.int .i64 i11)],[],s⟩) (fun J=>?_) ?_);rotate_left;rintro TO)
  |((with_reducible refine aY (fun((U4,SS,i11):UInt32×UInt32×Int)=>⟨[(4,.int .u32 Gt.toNat),(6,.int .u32 U4.toNat),(7,.int .u32 SS.toNat),(8,.int .i64 i11)],[],s⟩) ?_ ?_);(first|exact rfl|simp -implicitDefEqProofs only[go_sem,seval]);rintro J ⟨U4,SS,i11⟩)
  |((with_reducible refine bT (live:=[(4,false),(6,false)]) (fun(Z7:UInt32)=>⟨[(4,.int .u32 Gt.toNat),(6,.int .u32 Z7.toNat)],[],s⟩) (fun J=>?_) ?_);rotate_left;rintro Z7)
  |simp -implicitDefEqProofs only[go_sem,seval])
theorem kH{uB}{s:ab}{r:UInt32×UInt32}(h:cH uB=some r):FE prog 267 [sF 1 uB] s [.int .u32 r.1.toNat,.int .u32 r.2.toNat] s:=kI ⟨r,h,rfl,rfl⟩
def bI(s_0:(List UInt8))(cP:(List UInt8)):Option (Int):=
 aJ (cH cP) fun r1=>
 jn (
  iter (fun((Lt,h10,i11):Int×UInt32×Int)=>
   if decide (i11>=Lt)then
    aB (0<=i11/\i11<s_0.length)<|
    some (.inl (Lt,nq (((nq ((h10.toNat:Int)*16777619)).toNat:Int)+((nq (((ix s_0 i11).toNat:Int))).toNat:Int)),bd (i11 -1)))
   else
    some (.inr (Lt,h10))) (bd ((s_0.length:Int) -(cP.length:Int)),0,bd ((s_0.length:Int) -1))) fun((Hv,h8):Int×UInt32)=>
 aB (((h8.toNat:Int)==(r1.1.toNat:Int))=true->0<=Hv/\Hv<=(s_0.length:Int)/\(s_0.length:Int)<=s_0.length)<|
 if((h8.toNat:Int)==(r1.1.toNat:Int))&&((ar.mk (part s_0 Hv (s_0.length:Int))).b==(ar.mk cP).b)then
  none
 else
  jn (
   aJ (
    iter (fun((h19,i20):UInt32×Int)=>
     if decide (i20>=0)then
      aB (0<=i20/\i20<s_0.length)<|
      aB (0<=bd (i20+(cP.length:Int))/\bd (i20+(cP.length:Int))<s_0.length)<|
      aB ((((nq (((nq (((nq ((h19.toNat:Int)*16777619)).toNat:Int)+((nq (((ix s_0 i20).toNat:Int))).toNat:Int))).toNat:Int) -((nq ((r1.2.toNat:Int)*((nq (((ix s_0 (bd (i20+(cP.length:Int)))).toNat:Int))).toNat:Int))).toNat:Int))).toNat:Int)==(r1.1.toNat:Int))=true->0<=i20/\i20<=bd (i20+(cP.length:Int))/\bd (i20+(cP.length:Int))<=s_0.length)<|
      if(((nq (((nq (((nq ((h19.toNat:Int)*16777619)).toNat:Int)+((nq (((ix s_0 i20).toNat:Int))).toNat:Int))).toNat:Int) -((nq ((r1.2.toNat:Int)*((nq (((ix s_0 (bd (i20+(cP.length:Int)))).toNat:Int))).toNat:Int))).toNat:Int))).toNat:Int)==(r1.1.toNat:Int))&&((ar.mk (part s_0 i20 (bd (i20+(cP.length:Int))))).b==(ar.mk cP).b)then
       none
      else
       some (.inl (nq (((nq (((nq ((h19.toNat:Int)*16777619)).toNat:Int)+((nq (((ix s_0 i20).toNat:Int))).toNat:Int))).toNat:Int) -((nq ((r1.2.toNat:Int)*((nq (((ix s_0 (bd (i20+(cP.length:Int)))).toNat:Int))).toNat:Int))).toNat:Int)),bd (i20 -1)))
     else
      some (.inr ())) (h8,bd (Hv -1))) fun(_:Unit)=>
   some ()) fun(_:Unit)=>
  some (-1)
def ed:IC:=
 (ae [mi 4 0] [0,1]
 (ae [mv 13 1,c1 14 267 13,gi 12 14,ex 15 12 0,ex 16 12 1,mv 5 15,mv 6 16] [0,1,5,6]
 (ae [mv 17 1,le 18 0 17,mv 7 18] [0,1,5,6,7]
 (ae [mv 19 0,le 20 0 19,mv 21 7,bt 22 .sub 20 21,mv 8 22] [0,1,5,6,7,8]
 (ae [cZ 9 (.int .u32 0)] [0,1,5,6,7,8,9]
 (.join [(0,true),(1,true),(5,false),(6,false),(7,false),(8,false),(9,false)] (ae [mv 23 0,le 24 0 23,bn 25 .sub 24 1,mv 10 25] [0,1,5,6,7,8,9,10]
 (.block 0 (.loop [(0,true),(1,true),(5,false),(6,false),(7,false),(8,false),(9,false),(10,false)] (.seq (ae [mv 26 10,mv 27 8,bt 28 .geq 26 27] [0,1,5,6,7,8,9,10,28]
 (.cond (.t 28) .skip
 (.exit 0)))
 (.seq (.block 1 (.bJ none [mv 31 9,i1 32 (.bin .mul (.t 31) (.c (.int .u32 16777619))),mv 33 0,mv 34 10,ia 35 [.int .u8 0] 33 34,ld 36 1 35,i1 37 (.ot .u32 (.t 36)),bt 38 .add 32 37,mv 9 38] [0,1,5,6,7,8,9,10]))
 (.bJ none [mv 29 10,bn 30 .sub 29 1,mv 10 30] [0,1,5,6,7,8,9,10]))))))
 (.seq (.seq (.bJ (some 12) [mv 39 9,mv 40 5,bt 41 .eql 39 40,mv 42 41,df 43 0 42 true,df 44 8 42 true,du 45 42 true (.slice 1 (.t 43) (some (.t 44)) none none),du 46 42 true (.fF (.t 45)),df 47 1 42 true,du 48 42 true (.fF (.t 47)),rF 49 42 true .eql 46 48,pf 50 42 49] [0,1,5,6,7,8,9,50])
 (.cond (.t 50) .dead
 .skip))
 (.join [] (ae [mv 52 8,bn 53 .sub 52 1,mv 11 53] [0,1,5,6,7,9,11]
 (.block 2 (.loop [(0,true),(1,true),(5,false),(6,false),(7,false),(9,false),(11,false)] (.seq (ae [mv 54 11,bn 55 .geq 54 0] [0,1,5,6,7,9,11,55]
 (.cond (.t 55) .skip
 (.exit 2)))
 (.seq (.block 3 (ae [mv 58 9,i1 59 (.bin .mul (.t 58) (.c (.int .u32 16777619))),mv 9 59] [0,1,5,6,7,9,11]
 (ae [mv 60 9,mv 61 0,mv 62 11,ia 63 [.int .u8 0] 61 62,ld 64 1 63,i1 65 (.ot .u32 (.t 64)),bt 66 .add 60 65,mv 9 66] [0,1,5,6,7,9,11]
 (ae [mv 67 9,mv 68 6,mv 69 0,mv 70 11,mv 71 7,bt 72 .add 70 71,ia 73 [.int .u8 0] 69 72,ld 74 1 73,i1 75 (.ot .u32 (.t 74)),bt 76 .mul 68 75,bt 77 .sub 67 76,mv 9 77] [0,1,5,6,7,9,11]
 (.seq (.bJ (some 15) [mv 78 9,mv 79 5,bt 80 .eql 78 79,mv 81 80,df 82 0 81 true,df 83 11 81 true,df 84 11 81 true,df 85 7 81 true,rF 86 81 true .add 84 85,du 87 81 true (.slice 1 (.t 82) (some (.t 83)) (some (.t 86)) none),du 88 81 true (.fF (.t 87)),df 89 1 81 true,du 90 81 true (.fF (.t 89)),rF 91 81 true .eql 88 90,pf 92 81 91] [0,1,5,6,7,9,11,92])
 (.cond (.t 92) .dead
 .skip))))))
 (.bJ none [mv 56 11,bn 57 .sub 56 1,mv 11 57] [0,1,5,6,7,9,11]))))))
 (ae [mi 4 (-1)] [4]
 .ret)))))))))
theorem iK:aE prog 236 94 [⟨4,true,none⟩] ed=true:=by kernel_rfl
theorem iI{s_0 cP}{s:ab}{Q:List AV->ab->Prop}:ok (bI s_0 cP) (fun r=>Q [.int .i64 r] s)->FN prog 236 [sF 1 s_0,sF 1 cP] s Q:=by
 intro h
 refine FO iK rfl rfl ?_
 revert h
 rw[ed,bI]
 repeat'(first
  |(with_reducible first|exact bW|refine bj ?_ ?_|refine ch ?_|refine ah (fun _(h:cH cP=some _)=>kH h) (fun r1=>?_))
  |((with_reducible refine aY (fun((Lt,h10,i11):Int×UInt32×Int)=>⟨[(0,sF 1 s_0),(1,sF 1 cP),(5,.int .u32 r1.1.toNat),(6,.int .u32 r1.2.toNat),(7,.int .i64 (cP.length:Int)),(8,.int .i64 Lt),(9,.int .u32 h10.toNat),(10,.int .i64 i11)],[],s⟩) ?_ ?_);(first|exact rfl|simp -implicitDefEqProofs only[go_sem,seval]);rintro J ⟨Lt,h10,i11⟩)
  |((with_reducible refine bT (live:=[(0,true),(1,true),(5,false),(6,false),(7,false),(8,false),(9,false)]) (fun((Hv,h8):Int×UInt32)=>⟨[(0,sF 1 s_0),(1,sF 1 cP),(5,.int .u32 r1.1.toNat),(6,.int .u32 r1.2.toNat),(7,.int .i64 (cP.length:Int)),(8,.int .i64 Hv),(9,.int .u32 h8.toNat)],[],s⟩) (fun J=>?_) ?_);rotate_left;rintro⟨Hv,h8⟩)
  |((with_reducible refine aY (fun((h19,i20):UInt32×Int)=>⟨[(0,sF 1 s_0),(1,sF 1 cP),(5,.int .u32 r1.1.toNat),(6,.int .u32 r1.2.toNat),(7,.int .i64 (cP.length:Int)),(9,.int .u32 h19.toNat),(11,.int .i64 i20)],[],s⟩) ?_ ?_);(first|exact rfl|simp -implicitDefEqProofs only[go_sem,seval]);rintro J ⟨h19,i20⟩)
  |((with_reducible refine bT (live:=[]) (fun(_:Unit)=>⟨[],[],s⟩) (fun J=>?_) ?_);rotate_left;rintro _)
  |simp -implicitDefEqProofs only[go_sem,seval])
theorem iH{s_0 cP}{s:ab}{r:Int}(h:bI s_0 cP=some r):FE prog 236 [sF 1 s_0,sF 1 cP] s [.int .i64 r] s:=iI ⟨r,h,rfl,rfl⟩
def iT(s_0:(List UInt8))(cP:(List UInt8)):Option (Int):=
 if(cP.length:Int)==0 then
  none
 else
  if(cP.length:Int)==1 then
   none
  else
   if(cP.length:Int)==(s_0.length:Int)then
    none
   else
    if decide ((cP.length:Int)>(s_0.length:Int))then
     none
    else
     aJ (bI s_0 cP) fun r1=>
     some r1
def pT:IC:=
 (ae [mi 4 0] [0,1]
 (ae [mv 6 1,le 7 0 6,mv 5 7] [0,1,5]
 (.seq (.block 0 (ae [mv 9 5,bn 10 .eql 9 0,mv 8 10] [0,1,5,8]
 (.cond (.t 8) .dead
 (ae [mv 14 5,bn 15 .eql 14 1,mv 13 15] [0,1,5,13]
 (.cond (.t 13) .dead
 (ae [mv 22 5,mv 23 0,le 24 0 23,bt 25 .eql 22 24,mv 21 25] [0,1,5,21]
 (.cond (.t 21) .dead
 (ae [mv 30 5,mv 31 0,le 32 0 31,bt 33 .gtr 30 32,mv 29 33] [0,1,29]
 (.cond (.t 29) .dead
 .skip)))))))))
 (ae [mt 34 0,mt 35 1,c2 36 236 34 35,mv 4 36] [4]
 .ret))))
theorem zH:aE prog 193 37 [⟨4,true,none⟩] pT=true:=by kernel_rfl
theorem zi{s_0 cP}{s:ab}{Q:List AV->ab->Prop}:ok (iT s_0 cP) (fun r=>Q [.int .i64 r] s)->FN prog 193 [sF 1 s_0,sF 1 cP] s Q:=by
 intro h
 refine FO zH rfl rfl ?_
 revert h
 rw[pT,iT]
 repeat'(first
  |(with_reducible first|exact bW|refine bj ?_ ?_|refine ch ?_|refine ah (fun _(h:bI s_0 cP=some _)=>iH h) (fun r1=>?_))
  |simp -implicitDefEqProofs only[go_sem,seval])
theorem zh{s_0 cP}{s:ab}{r:Int}(h:iT s_0 cP=some r):FE prog 193 [sF 1 s_0,sF 1 cP] s [.int .i64 r] s:=zi ⟨r,h,rfl,rfl⟩
def nH(s_0:I9):Option (Int×Int×Int):=
 aJ (pJ s_0) fun r1=>
 aJ (rT s_0 (max 0 (bd (r1 -64))) 64) fun r2=>
 if !r2.2 then
  none
 else
  aJ (iT r2.1 [115,116,97,114,116,120,114,101,102]) fun r3=>
  if decide (r3<0)then
   some (0,0,22)
  else
   none
def vy:IC:=
 (ae [mi 2 0,mi 3 0,mi 4 0] [0]
 (ae [mv 12 0,c1 13 62 12,bn 14 .sub 13 64,i1 15 (.gb true [(.c (.int .i64 0)),(.t 14)]),mv 5 15] [0,5]
 (ae [mv 17 0,mv 18 5,i1 19 (.call 61 [(.t 17),(.t 18),(.c (.int .i64 64))]),gi 16 19,ex 20 16 0,ex 21 16 1,mt 6 20,mv 7 21] [6,7]
 (.seq (ae [mv 22 7,no 23 22] [6,23]
 (.cond (.t 23) .dead
 .skip))
 (ae [mt 27 6,i1 28 (.aN 1 9 [.int .u8 0,.int .u8 0,.int .u8 0,.int .u8 0,.int .u8 0,.int .u8 0,.int .u8 0,.int .u8 0,.int .u8 0] [(0,1,(.c (.int .u8 115))),(1,1,(.c (.int .u8 116))),(2,1,(.c (.int .u8 97))),(3,1,(.c (.int .u8 114))),(4,1,(.c (.int .u8 116))),(5,1,(.c (.int .u8 120))),(6,1,(.c (.int .u8 114))),(7,1,(.c (.int .u8 101))),(8,1,(.c (.int .u8 102)))]),i1 29 (.kz (.t 28)),c2 30 193 27 29,mv 8 30] [8]
 (.seq (ae [mv 31 8,bn 32 .lss 31 0] [32]
 (.cond (.t 32) (ae [mi 2 0,mi 3 0,mi 4 22] [2,3,4]
 .ret)
 .dead))
 .dead))))))
theorem GV:aE prog 143 54 [⟨2,true,none⟩,⟨3,true,none⟩,⟨4,true,none⟩] vy=true:=by kernel_rfl
theorem Ga{s_0}{s:ab}{Q:List AV->ab->Prop}(va0:jx s s_0):ok (nH s_0) (fun r=>Q [.int .i64 r.1,.int .i64 r.2.1,.int .i64 r.2.2] s)->FN prog 143 [.ref s_0.B 0] s Q:=by
 intro h
 refine FO GV rfl rfl ?_
 revert h
 rw[vy,nH]
 repeat'(first
  |(with_reducible first|exact bW|refine bj ?_ ?_|refine ch ?_|refine ah (fun _(h:pJ s_0=some _)=>x4 (jx.mono (by assumption) (by repeat'(first|exact Sub.refl _|refine Sub.set ?_ ?_|assumption|(simp[ab.set, *];done)))) h) (fun r1=>?_)|refine ah (fun _(h:rT s_0 (max 0 (bd (r1 -64))) 64=some _)=>Aq (jx.mono (by assumption) (by repeat'(first|exact Sub.refl _|refine Sub.set ?_ ?_|assumption|(simp[ab.set, *];done)))) h) (fun r2=>?_)|refine ah (fun _(h:iT r2.1 [115,116,97,114,116,120,114,101,102]=some _)=>(by refine gL ?_ (zh h);simp -implicitDefEqProofs only[go_sem,seval])) (fun r3=>?_))
  |simp -implicitDefEqProofs only[go_sem,seval])
theorem F9{s_0}{s:ab}{r:Int×Int×Int}(va0:jx s s_0)(h:nH s_0=some r):FE prog 143 [.ref s_0.B 0] s [.int .i64 r.1,.int .i64 r.2.1,.int .i64 r.2.2] s:=Ga va0 ⟨r,h,rfl,rfl⟩
def pL(s_0:I9):Option (cN×Int×Int):=
 aJ (nH s_0) fun r1=>
 if r1.2.2 !=0 then
  some ((cN.mk ([]:List Int) 0),r1.2.1,r1.2.2)
 else
  none
def yi:IC:=
 (ae [i1 2 (.an [.sl true 1 0 [],.int .i64 0]),mi 3 0,mi 4 0] [0,2]
 (ae [mv 11 0,c1 12 143 11,gi 10 12,ex 13 10 0,ex 14 10 1,ex 15 10 2,mv 5 13,mv 6 14,mv 7 15] [2,6,7]
 (.seq (ae [mv 16 7,bn 17 .neq 16 0] [2,6,7,17]
 (.cond (.t 17) (ae [i1 18 (.build [.sl true 1 0 [],.int .i64 0] []),mv 19 6,mv 20 7,st 2 2 18,mv 3 19,mv 4 20] [2,3,4]
 .ret)
 .dead))
 .dead)))
theorem Jw:aE prog 90 40 [⟨2,false,some (2,true)⟩,⟨3,true,none⟩,⟨4,true,none⟩] yi=true:=by kernel_rfl
theorem Jh{s_0}{s:ab}{Q:List AV->ab->Prop}(va0:jx s s_0):ok (pL s_0) (fun r=>Q [.agg [sF 1 r.1.de,.int .i64 r.1.cM],.int .i64 r.2.1,.int .i64 r.2.2] s)->FN prog 90 [.ref s_0.B 0] s Q:=by
 intro h
 refine FO Jw rfl rfl ?_
 revert h
 rw[yi,pL]
 repeat'(first
  |with_reducible refine ah (fun _(h:nH s_0=some _)=>F9 (jx.mono (by assumption) (by repeat'(first|exact Sub.refl _|refine Sub.set ?_ ?_|assumption|(simp[ab.set, *];done)))) h) (fun r1=>?_)
  |simp -implicitDefEqProofs only[go_sem,seval])
theorem Jg{s_0}{s:ab}{r:cN×Int×Int}(va0:jx s s_0)(h:pL s_0=some r):FE prog 90 [.ref s_0.B 0] s [.agg [sF 1 r.1.de,.int .i64 r.1.cM],.int .i64 r.2.1,.int .i64 r.2.2] s:=Jh va0 ⟨r,h,rfl,rfl⟩
def nY(v_0:aa):Option (Int):=
 if(!(v_0.S.b==(ar.mk []).b))||((v_0.L.length:Int)!=0)then
  none
 else
  if((v_0.Kind==2)&&(decide (v_0.N>=(-2147483647))))&&(decide (v_0.N<=2147483647))then
   some 0
  else
   none
def vI:IC:=
 (ae [i1 1 (.b8 4 (.t 0)),mi 2 0] [1]
 (.seq (ae [fa 3 2 1,ld 4 1 3,i1 5 (.bin .neq (.t 4) (.c (.str []))),mv 6 5,fg 7 6 false 3 1,lg 8 6 false 1 7,du 9 6 false (.len 0 (.t 8)),ju 10 6 false .neq 9 0,po 11 6 10] [1,11]
 (.cond (.t 11) .dead
 .skip))
 (.seq (ae [fa 12 0 1,ld 13 1 12,bn 14 .eql 13 2,mv 15 14,fg 16 15 true 1 1,lg 17 15 true 1 16,ju 18 15 true .geq 17 (-2147483647),pf 19 15 18,mv 20 19,fg 21 20 true 1 1,lg 22 20 true 1 21,ju 23 20 true .leq 22 2147483647,pf 24 20 23] [24]
 (.cond (.t 24) (ae [mi 2 0] [2]
 .ret)
 .dead))
 .dead)))
theorem Ha:aE prog 231 38 [⟨2,true,none⟩] vI=true:=by kernel_rfl
theorem Ib{v_0}{s:ab}{Q:List AV->ab->Prop}:ok (nY v_0) (fun r=>Q [.int .i64 r] s)->FN prog 231 [oV v_0] s Q:=by
 intro h
 refine FO Ha rfl rfl ?_
 revert h
 rw[vI,nY]
 repeat'(first
  |simp -implicitDefEqProofs only[go_sem,seval])
theorem Ia{v_0}{s:ab}{r:Int}(h:nY v_0=some r):FE prog 231 [oV v_0] s [.int .i64 r] s:=Ib ⟨r,h,rfl,rfl⟩
def qk(n_0:Int)(qN:Int):Option (ar):=
 jn (
  iter (fun((n2,s3,k4):Int×ar×Int)=>
   if(decide (k4<20))&&((decide (n2>0))||(decide ((s3.b.length:Int)<qN)))then
    aB (0<=Int.tmod n2 10/\Int.tmod n2 10<=bd ((Int.tmod n2 10)+1)/\bd ((Int.tmod n2 10)+1)<=(ar.mk [48,49,50,51,52,53,54,55,56,57]).b.length)<|
    aB ((((ar.mk (part (ar.mk [48,49,50,51,52,53,54,55,56,57]).b (Int.tmod n2 10) (bd ((Int.tmod n2 10)+1)))).b.length+s3.b.length:Nat):Int)<=tq)<|
    some (.inl (bd (Int.tdiv n2 10),ar.mk ((ar.mk (part (ar.mk [48,49,50,51,52,53,54,55,56,57]).b (Int.tmod n2 10) (bd ((Int.tmod n2 10)+1)))).b++s3.b),bd (k4+1)))
   else
    some (.inr s3)) (n_0,(ar.mk []),0)) fun(s1:ar)=>
 some s1
def yr:IC:=
 (ae [cZ 4 (.str [])] [0,1]
 (ae [cZ 5 (.str [])] [0,1,5]
 (.join [(5,false)] (ae [mi 6 0] [0,1,5,6]
 (.block 0 (.loop [(0,false),(1,false),(5,false),(6,false)] (.seq (ae [mv 8 6,bn 9 .lss 8 20,mv 10 9,df 11 0 10 true,ju 12 10 true .gtr 11 0,df 13 12 10 true,df 14 5 13 false,du 15 13 false (.len 1 (.t 14)),df 16 1 13 false,rF 17 13 false .lss 15 16,du 18 10 true (.pick (.t 13) (.c (.bool true)) (.t 17)),pf 19 10 18] [0,1,5,6,19]
 (.cond (.t 19) .skip
 (.exit 0)))
 (.seq (.block 1 (ae [mv 22 0,bn 23 .rem 22 10,mv 7 23] [0,1,5,6,7]
 (ae [mv 24 7,mv 25 7,bn 26 .add 25 1,i1 27 (.rL (.c (.str [48,49,50,51,52,53,54,55,56,57])) (some (.t 24)) (some (.t 26))),mv 28 5,bt 29 .add 27 28,mv 5 29] [0,1,5,6]
 (.bJ none [mv 30 0,bn 31 .quo 30 10,mv 0 31] [0,1,5,6]))))
 (.bJ none [mv 20 6,bn 21 .add 20 1,mv 6 21] [0,1,5,6]))))))
 (ae [mv 32 5,mv 4 32] [4]
 .ret))))
theorem JE:aE prog 232 33 [⟨4,true,none⟩] yr=true:=by kernel_rfl
theorem Kf{n_0 qN}{s:ab}{Q:List AV->ab->Prop}:ok (qk n_0 qN) (fun r=>Q [.str r.b] s)->FN prog 232 [.int .i64 n_0,.int .i64 qN] s Q:=by
 intro h
 refine FO JE rfl rfl ?_
 revert h
 rw[yr,qk]
 repeat'(first
  |((with_reducible refine aY (fun((n2,s3,k4):Int×ar×Int)=>⟨[(0,.int .i64 n2),(1,.int .i64 qN),(5,.str s3.b),(6,.int .i64 k4)],[],s⟩) ?_ ?_);(first|exact rfl|simp -implicitDefEqProofs only[go_sem,seval]);rintro J ⟨n2,s3,k4⟩)
  |((with_reducible refine bT (fun(s1:ar)=>⟨[(5,.str s1.b)],[],s⟩) (fun J=>?_) ?_);rotate_left;rintro s1)
  |simp -implicitDefEqProofs only[go_sem,seval])
theorem Ke{n_0 qN}{s:ab}{r:ar}(h:qk n_0 qN=some r):FE prog 232 [.int .i64 n_0,.int .i64 qN] s [.str r.b] s:=Kf ⟨r,h,rfl,rfl⟩
def jF(v_0:aa):Option (ar×Int):=
 aJ (nY v_0) fun r1=>
 if r1 !=0 then
  none
 else
  if decide (v_0.N<0)then
   none
  else
   if v_0.Kind==2 then
    aJ (qk v_0.N 1) fun r2=>
    aB ((((ar.mk []).b.length+r2.b.length:Nat):Int)<=tq)<|
    some (ar.mk ((ar.mk []).b++r2.b),0)
   else
    none
def vJ:IC:=
 (ae [i1 1 (.b8 4 (.t 0)),cZ 2 (.str []),mi 3 0] [1]
 (.seq (ae [lm 8 4 1,c1 9 231 8,bn 10 .neq 9 0] [1,10]
 (.cond (.t 10) .dead
 .skip))
 (ae [fa 11 1 1,ld 12 1 11,mv 4 12] [1,4]
 (ae [cZ 5 (.str [])] [1,4,5]
 (.seq (ae [mv 13 4,bn 14 .lss 13 0] [1,4,5,14]
 (.cond (.t 14) .dead
 .skip))
 (.seq (ae [fa 17 0 1,ld 18 1 17,bn 19 .eql 18 2] [4,5,19]
 (.cond (.t 19) (ae [mv 20 5,mv 21 4,i1 22 (.call 232 [(.t 21),(.c (.int .i64 1))]),bt 23 .add 20 22,mv 2 23,mi 3 0] [2,3]
 .ret)
 .dead))
 .dead))))))
theorem Hc:aE prog 190 52 [⟨2,true,none⟩,⟨3,true,none⟩] vJ=true:=by kernel_rfl
theorem Ic{v_0}{s:ab}{Q:List AV->ab->Prop}:ok (jF v_0) (fun r=>Q [.str r.1.b,.int .i64 r.2] s)->FN prog 190 [oV v_0] s Q:=by
 intro h
 refine FO Hc rfl rfl ?_
 revert h
 rw[vJ,jF]
 repeat'(first
  |(with_reducible first|exact bW|refine bj ?_ ?_|refine ch ?_|refine ah (fun _(h:nY v_0=some _)=>Ia h) (fun r1=>?_)|refine ah (fun _(h:qk v_0.N 1=some _)=>Ke h) (fun r2=>?_))
  |simp -implicitDefEqProofs only[go_sem,seval])
theorem wM{v_0}{s:ab}{r:ar×Int}(h:jF v_0=some r):FE prog 190 [oV v_0] s [.str r.1.b,.int .i64 r.2] s:=Ic ⟨r,h,rfl,rfl⟩
def ql(s_0:ar):Option (Bool):=
 jn (
  aJ (
   iter (fun(k2:Int)=>
    if decide (k2<(s_0.b.length:Int))then
     aB (0<=k2/\k2<s_0.b.length)<|
     if((ix s_0.b k2).toNat:Int)==0 then
      none
     else
      some (.inl (bd (k2+1)))
    else
     some (.inr ())) 0) fun(_:Unit)=>
  some ()) fun(_:Unit)=>
 some (decide ((s_0.b.length:Int)<=127))
def yz:IC:=
 (ae [cZ 2 (.bool false)] [0]
 (.join [(0,false)] (ae [mi 3 0] [0,3]
 (.block 0 (.loop [(0,false),(3,false)] (.seq (ae [mv 4 3,mv 5 0,le 6 1 5,bt 7 .lss 4 6] [0,3,7]
 (.cond (.t 7) .skip
 (.exit 0)))
 (.seq (.block 1 (ae [mv 10 0,mv 11 3,i1 12 (.jh (.t 10) (.t 11)),bu 13 .eql 12 0] [0,3,13]
 (.cond (.t 13) .dead
 .skip)))
 (.bJ none [mv 8 3,bn 9 .add 8 1,mv 3 9] [0,3]))))))
 (ae [mv 14 0,le 15 1 14,bn 16 .leq 15 127,mv 2 16] [2]
 .ret)))
theorem JJ:aE prog 234 17 [⟨2,true,none⟩] yz=true:=by kernel_rfl
theorem Km{s_0}{s:ab}{Q:List AV->ab->Prop}:ok (ql s_0) (fun r=>Q [.bool r] s)->FN prog 234 [.str s_0.b] s Q:=by
 intro h
 refine FO JJ rfl rfl ?_
 revert h
 rw[yz,ql]
 repeat'(first
  |((with_reducible refine aY (fun(k2:Int)=>⟨[(0,.str s_0.b),(3,.int .i64 k2)],[],s⟩) ?_ ?_);(first|exact rfl|simp -implicitDefEqProofs only[go_sem,seval]);rintro J k2)
  |((with_reducible refine bT (fun(_:Unit)=>⟨[(0,.str s_0.b)],[],s⟩) (fun J=>?_) ?_);rotate_left;rintro _)
  |simp -implicitDefEqProofs only[go_sem,seval])
theorem Kl{s_0}{s:ab}{r:Bool}(h:ql s_0=some r):FE prog 234 [.str s_0.b] s [.bool r] s:=Km ⟨r,h,rfl,rfl⟩
def nZ(c_0:UInt8):Option (Bool):=
 jn (
  if(c_0.toNat:Int)==40 then
   some ((c_0.toNat:Int)==40)
  else
   if(c_0.toNat:Int)==41 then
    some ((c_0.toNat:Int)==41)
   else
    if(c_0.toNat:Int)==60 then
     some ((c_0.toNat:Int)==60)
    else
     if(c_0.toNat:Int)==62 then
      some ((c_0.toNat:Int)==62)
     else
      if(c_0.toNat:Int)==91 then
       some ((c_0.toNat:Int)==91)
      else
       if(c_0.toNat:Int)==93 then
        some ((c_0.toNat:Int)==93)
       else
        if(c_0.toNat:Int)==123 then
         some ((c_0.toNat:Int)==123)
        else
         if(c_0.toNat:Int)==125 then
          some ((c_0.toNat:Int)==125)
         else
          if(c_0.toNat:Int)==47 then
           some ((c_0.toNat:Int)==47)
          else
           some ((c_0.toNat:Int)==37)) fun(t1:Bool)=>
 if t1 then
  some true
 else
  some false
def vK:IC:=
 (ae [cZ 2 (.bool false)] [0]
 (.seq (ae [mv 3 0] [3]
 (.block 0 (.join [(4,false)] (ae [bu 5 .eql 3 40,mv 4 5] [3,4]
 (.cond (.t 4) .skip
 (ae [bu 6 .eql 3 41,mv 4 6] [3,4]
 (.cond (.t 4) .skip
 (ae [bu 7 .eql 3 60,mv 4 7] [3,4]
 (.cond (.t 4) .skip
 (ae [bu 8 .eql 3 62,mv 4 8] [3,4]
 (.cond (.t 4) .skip
 (ae [bu 9 .eql 3 91,mv 4 9] [3,4]
 (.cond (.t 4) .skip
 (ae [bu 10 .eql 3 93,mv 4 10] [3,4]
 (.cond (.t 4) .skip
 (ae [bu 11 .eql 3 123,mv 4 11] [3,4]
 (.cond (.t 4) .skip
 (ae [bu 12 .eql 3 125,mv 4 12] [3,4]
 (.cond (.t 4) .skip
 (ae [bu 13 .eql 3 47,mv 4 13] [3,4]
 (.cond (.t 4) .skip
 (.bJ none [bu 14 .eql 3 37,mv 4 14] [4])))))))))))))))))))
 (.cond (.t 4) (ae [cZ 2 (.bool true)] [2]
 .ret)
 .skip))))
 (ae [cZ 2 (.bool false)] [2]
 .ret)))
theorem He:aE prog 79 15 [⟨2,true,none⟩] vK=true:=by kernel_rfl
theorem Ig{c_0}{s:ab}{Q:List AV->ab->Prop}:ok (nZ c_0) (fun r=>Q [.bool r] s)->FN prog 79 [.int .u8 c_0.toNat] s Q:=by
 intro h
 refine FO He rfl rfl ?_
 revert h
 rw[vK,nZ]
 repeat'(first
  |((with_reducible refine bT (fun(t1:Bool)=>⟨[(4,.bool t1)],[],s⟩) (fun J=>?_) ?_);rotate_left;rintro t1)
  |simp -implicitDefEqProofs only[go_sem,seval])
theorem Ie{c_0}{s:ab}{r:Bool}(h:nZ c_0=some r):FE prog 79 [.int .u8 c_0.toNat] s [.bool r] s:=Ig ⟨r,h,rfl,rfl⟩
def qm(s_0:ar):Option (ar×Int):=
 aJ (ql s_0) fun r1=>
 if !r1 then
  none
 else
  jn (
   iter (fun((jt,k4):ar×Int)=>
    if decide (k4<(s_0.b.length:Int))then
     aB (0<=k4/\k4<s_0.b.length)<|
     aB ((decide (((ix s_0.b k4).toNat:Int)>32))=true->0<=k4/\k4<s_0.b.length)<|
     aB (((decide (((ix s_0.b k4).toNat:Int)>32))&&(decide (((ix s_0.b k4).toNat:Int)<127)))=true->0<=k4/\k4<s_0.b.length)<|
     aB ((((decide (((ix s_0.b k4).toNat:Int)>32))&&(decide (((ix s_0.b k4).toNat:Int)<127)))&&(((ix s_0.b k4).toNat:Int)!=35))=true->0<=k4/\k4<s_0.b.length)<|
     aJ (mB (((decide (((ix s_0.b k4).toNat:Int)>32))&&(decide (((ix s_0.b k4).toNat:Int)<127)))&&(((ix s_0.b k4).toNat:Int)!=35)) false (nZ (ix s_0.b k4))) fun r6=>
     if(((decide (((ix s_0.b k4).toNat:Int)>32))&&(decide (((ix s_0.b k4).toNat:Int)<127)))&&(((ix s_0.b k4).toNat:Int)!=35))&&(!r6)then
      aB (0<=k4/\k4<=bd (k4+1)/\bd (k4+1)<=s_0.b.length)<|
      aB (((jt.b.length+(ar.mk (part s_0.b k4 (bd (k4+1)))).b.length:Nat):Int)<=tq)<|
      some (.inl (ar.mk (jt.b++(ar.mk (part s_0.b k4 (bd (k4+1)))).b),bd (k4+1)))
     else
      none
    else
     some (.inr jt)) ((ar.mk [47]),0)) fun(fZ:ar)=>
  some (fZ,0)
def yC:IC:=
 (ae [cZ 2 (.str []),mi 3 0] [0]
 (.seq (ae [mv 6 0,c1 7 234 6,no 8 7] [0,8]
 (.cond (.t 8) .dead
 .skip))
 (ae [cZ 4 (.str [47])] [0,4]
 (.join [(4,false)] (ae [mi 5 0] [0,4,5]
 (.block 0 (.loop [(0,false),(4,false),(5,false)] (.seq (ae [mv 9 5,mv 10 0,le 11 1 10,bt 12 .lss 9 11] [0,4,5,12]
 (.cond (.t 12) .skip
 (.exit 0)))
 (.seq (.block 1 (.seq (.bJ (some 21) [mv 15 0,mv 16 5,i1 17 (.jh (.t 15) (.t 16)),bu 18 .gtr 17 32,mv 19 18,df 20 0 19 true,df 21 5 19 true,du 22 19 true (.jh (.t 20) (.t 21)),du 23 19 true (.bin .lss (.t 22) (.c (.int .u8 127))),pf 24 19 23,mv 25 24,df 26 0 25 true,df 27 5 25 true,du 28 25 true (.jh (.t 26) (.t 27)),du 29 25 true (.bin .neq (.t 28) (.c (.int .u8 35))),pf 30 25 29,mv 31 30,df 32 0 31 true,df 33 5 31 true,du 34 31 true (.jh (.t 32) (.t 33)),SI 35 31 true 79 34,du 36 31 true (.un .not (.t 35)),pf 37 31 36] [0,4,5,37])
 (.cond (.t 37) (.bJ none [mv 38 4,mv 39 0,mv 40 5,mv 41 5,bn 42 .add 41 1,i1 43 (.rL (.t 39) (some (.t 40)) (some (.t 42))),bt 44 .add 38 43,mv 4 44] [0,4,5])
 .dead)))
 (.bJ none [mv 13 5,bn 14 .add 13 1,mv 5 14] [0,4,5]))))))
 (ae [mv 52 4,mv 2 52,mi 3 0] [2,3]
 .ret)))))
theorem JM:aE prog 192 53 [⟨2,true,none⟩,⟨3,true,none⟩] yC=true:=by kernel_rfl
theorem Kr{s_0}{s:ab}{Q:List AV->ab->Prop}:ok (qm s_0) (fun r=>Q [.str r.1.b,.int .i64 r.2] s)->FN prog 192 [.str s_0.b] s Q:=by
 intro h
 refine FO JM rfl rfl ?_
 revert h
 rw[yC,qm]
 repeat'(first
  |(with_reducible first|exact bW|refine bj ?_ ?_|refine ch ?_|refine ah (fun _(h:ql s_0=some _)=>Kl h) (fun r1=>?_)|refine fP rfl (fun _(h:nZ (ix s_0.b k4)=some _)=>Ie h) (fun _=>rfl) (fun r6=>?_))
  |((with_reducible refine aY (fun((jt,k4):ar×Int)=>⟨[(0,.str s_0.b),(4,.str jt.b),(5,.int .i64 k4)],[],s⟩) ?_ ?_);(first|exact rfl|simp -implicitDefEqProofs only[go_sem,seval]);rintro J ⟨jt,k4⟩)
  |((with_reducible refine bT (fun(fZ:ar)=>⟨[(4,.str fZ.b)],[],s⟩) (fun J=>?_) ?_);rotate_left;rintro fZ)
  |simp -implicitDefEqProofs only[go_sem,seval])
theorem Kq{s_0}{s:ab}{r:ar×Int}(h:qm s_0=some r):FE prog 192 [.str s_0.b] s [.str r.1.b,.int .i64 r.2] s:=Kr ⟨r,h,rfl,rfl⟩
def fW:Nat->aa->Option (ar)
 |0,_=>none
 |fuel+1,v_0=>
  if v_0.Kind==0 then
   none
  else
   if v_0.Kind==1 then
    none
   else
    jn (
     if v_0.Kind==2 then
      some (v_0.Kind==2)
     else
      some (v_0.Kind==3)) fun(t3:Bool)=>
    if t3 then
     aJ (jF v_0) fun r4=>
     some r4.1
    else
     if v_0.Kind==4 then
      none
     else
      if v_0.Kind==5 then
       aJ (qm v_0.S) fun r5=>
       some r5.1
      else
       if v_0.Kind==8 then
        aJ (jF (aa.mk 2 v_0.N (ar.mk []) ([]:List aa))) fun r6=>
        aB (((r6.1.b.length+(ar.mk [32,48,32,82]).b.length:Nat):Int)<=tq)<|
        some (ar.mk (r6.1.b++(ar.mk [32,48,32,82]).b))
       else
        jn (
         iter (fun((s9,k10):ar×Int)=>
          if decide (k10<(v_0.L.length:Int))then
           jn (
            if decide (k10>0)then
             aB (((s9.b.length+(ar.mk [32]).b.length:Nat):Int)<=tq)<|
             some (ar.mk (s9.b++(ar.mk [32]).b))
            else
             some s9) fun(s14:ar)=>
           aB (0<=k10/\k10<v_0.L.length)<|
           aJ (fW fuel (ix v_0.L k10)) fun r16=>
           aB (((s14.b.length+r16.b.length:Nat):Int)<=tq)<|
           some (.inl (ar.mk (s14.b++r16.b),bd (k10+1)))
          else
           some (.inr s9)) ((ar.mk []),0)) fun(s8:ar)=>
        if v_0.Kind==6 then
         aB ((((ar.mk [91]).b.length+s8.b.length:Nat):Int)<=tq)<|
         aB ((((ar.mk ((ar.mk [91]).b++s8.b)).b.length+(ar.mk [93]).b.length:Nat):Int)<=tq)<|
         some (ar.mk ((ar.mk ((ar.mk [91]).b++s8.b)).b++(ar.mk [93]).b))
        else
         aB ((((ar.mk [60,60]).b.length+s8.b.length:Nat):Int)<=tq)<|
         aB ((((ar.mk ((ar.mk [60,60]).b++s8.b)).b.length+(ar.mk [62,62]).b.length:Nat):Int)<=tq)<|
         some (ar.mk ((ar.mk ((ar.mk [60,60]).b++s8.b)).b++(ar.mk [62,62]).b))
def yB:IC:=
 (ae [i1 1 (.b8 4 (.t 0)),cZ 2 (.str [])] [1]
 (.seq (ae [fa 11 0 1,ld 12 1 11] [1,12]
 (.block 0 (ae [bn 14 .eql 12 0,mv 13 14] [1,12,13]
 (.cond (.t 13) .dead
 (ae [bn 16 .eql 12 1,mv 15 16] [1,12,15]
 (.cond (.t 15) .dead
 (.join [(1,false),(12,false),(20,false)] (ae [bn 21 .eql 12 2,mv 20 21] [1,12,20]
 (.cond (.t 20) .skip
 (.bJ none [bn 22 .eql 12 3,mv 20 22] [1,12,20])))
 (.cond (.t 20) (ae [lm 24 4 1,c1 25 190 24,gi 23 25,ex 26 23 0,ex 27 23 1,mv 3 26,mv 4 27] [3]
 (ae [mv 28 3,mv 2 28] [2]
 .ret))
 (ae [bn 30 .eql 12 4,mv 29 30] [1,12,29]
 (.cond (.t 29) .dead
 (ae [bn 35 .eql 12 5,mv 34 35] [1,12,34]
 (.cond (.t 34) (ae [fa 37 2 1,ld 38 1 37,c1 39 192 38,gi 36 39,ex 40 36 0,ex 41 36 1,mv 5 40,mv 6 41] [5]
 (ae [mv 42 5,mv 2 42] [2]
 .ret))
 (ae [bn 44 .eql 12 8,mv 43 44] [1,43]
 (.cond (.t 43) (ae [fa 46 1 1,ld 47 1 46,i1 48 (.build pr [(0,1,(.c (.int .i64 2))),(1,1,(.t 47))]),c1 49 190 48,gi 45 49,ex 50 45 0,ex 51 45 1,mv 7 50,mv 8 51] [7]
 (ae [mv 52 7,i1 53 (.bin .add (.t 52) (.c (.str [32,48,32,82]))),mv 2 53] [2]
 .ret))
 .skip))))))))))))))
 (ae [cZ 9 (.str [])] [1,9]
 (.join [(1,false),(9,false)] (ae [mi 10 0] [1,9,10]
 (.block 1 (.loop [(1,false),(9,false),(10,false)] (.seq (ae [mv 54 10,fa 55 3 1,ld 56 1 55,le 57 0 56,bt 58 .lss 54 57] [1,9,10,58]
 (.cond (.t 58) .skip
 (.exit 1)))
 (.seq (.block 2 (.join [(1,false),(9,false),(10,false)] (ae [mv 61 10,bn 62 .gtr 61 0] [1,9,10,62]
 (.cond (.t 62) (.bJ none [mv 63 9,i1 64 (.bin .add (.t 63) (.c (.str [32]))),mv 9 64] [1,9,10])
 .skip))
 (.bJ none [mv 65 9,fa 66 3 1,ld 67 1 66,mv 68 10,ia 69 pr 67 68,lm 70 4 69,c1 71 141 70,bt 72 .add 65 71,mv 9 72] [1,9,10])))
 (.bJ none [mv 59 10,bn 60 .add 59 1,mv 10 60] [1,9,10]))))))
 (.seq (ae [fa 73 0 1,ld 74 1 73,bn 75 .eql 74 6] [9,75]
 (.cond (.t 75) (ae [mv 76 9,i1 77 (.bin .add (.c (.str [91])) (.t 76)),i1 78 (.bin .add (.t 77) (.c (.str [93]))),mv 2 78] [2]
 .ret)
 .skip))
 (ae [mv 79 9,i1 80 (.bin .add (.c (.str [60,60])) (.t 79)),i1 81 (.bin .add (.t 80) (.c (.str [62,62]))),mv 2 81] [2]
 .ret))))))
theorem JL:aE prog 141 82 [⟨2,true,none⟩] yB=true:=by kernel_rfl
theorem Kp{fuel:Nat}:∀{v_0:aa}{s:ab}{Q:List AV->ab->Prop},ok (fW fuel v_0) (fun r=>Q [.str r.b] s)->FN prog 141 [oV v_0] s Q:=by
 induction fuel with
 |zero=>intros;rename_i h;rw[fW]at h;exact absurd h (by rw[ok_none];exact fun h=>h)
 |succ fuel ih=>
 have AW:∀{v_0:aa}{s:ab}{r:ar},fW fuel v_0=some r->FE prog 141 [oV v_0] s [.str r.b] s:=fun h=>ih ⟨_,h,rfl,rfl⟩
 intro v_0 s Q
 intro h
 refine FO JL rfl rfl ?_
 revert h
 rw[yB,fW]
 repeat'(first
  |(with_reducible first|exact bW|refine bj ?_ ?_|refine ch ?_|refine ah (fun _(h:jF v_0=some _)=>wM h) (fun r4=>?_)|refine ah (fun _(h:qm v_0.S=some _)=>Kq h) (fun r5=>?_)|refine ah (fun _(h:jF (aa.mk 2 v_0.N (ar.mk []) ([]:List aa))=some _)=>(by refine gL ?_ (wM h);simp -implicitDefEqProofs only[go_sem,seval])) (fun r6=>?_)|refine ah (fun _(h:fW fuel (ix v_0.L k10)=some _)=>AW h) (fun r16=>?_))
  |((with_reducible refine bT (live:=[(1,false),(12,false),(20,false)]) (fun(t3:Bool)=>⟨[(1,.loc [.int .i64 v_0.Kind,.int .i64 v_0.N,.str v_0.S.b,sF 4 v_0.L]),(12,.int .i64 v_0.Kind),(20,.bool t3)],[],s⟩) (fun J=>?_) ?_);rotate_left;rintro t3)
  |((with_reducible refine bT (live:=[(1,false),(9,false),(10,false)]) (fun(s14:ar)=>⟨[(1,.loc [.int .i64 v_0.Kind,.int .i64 v_0.N,.str v_0.S.b,sF 4 v_0.L]),(9,.str s14.b),(10,.int .i64 k10)],[],s⟩) (fun J=>?_) ?_);rotate_left;rintro s14)
  |((with_reducible refine aY (fun((s9,k10):ar×Int)=>⟨[(1,.loc [.int .i64 v_0.Kind,.int .i64 v_0.N,.str v_0.S.b,sF 4 v_0.L]),(9,.str s9.b),(10,.int .i64 k10)],[],s⟩) ?_ ?_);(first|exact rfl|simp -implicitDefEqProofs only[go_sem,seval]);rintro J ⟨s9,k10⟩)
  |((with_reducible refine bT (live:=[(1,false),(9,false)]) (fun(s8:ar)=>⟨[(1,.loc [.int .i64 v_0.Kind,.int .i64 v_0.N,.str v_0.S.b,sF 4 v_0.L]),(9,.str s8.b)],[],s⟩) (fun J=>?_) ?_);rotate_left;rintro s8)
  |simp -implicitDefEqProofs only[go_sem,seval])
theorem yZ{fuel:Nat}{v_0}{s:ab}{r:ar}(h:fW fuel v_0=some r):FE prog 141 [oV v_0] s [.str r.b] s:=Kp ⟨r,h,rfl,rfl⟩
def iQ(n_0:Int):Option (ar):=
 aJ (fW iu (aa.mk 2 n_0 (ar.mk []) ([]:List aa))) fun r1=>
 some r1
def uj:IC:=
 (ae [cZ 2 (.str [])] [0]
 (ae [mv 3 0,i1 4 (.build pr [(0,1,(.c (.int .i64 2))),(1,1,(.t 3))]),c1 5 141 4,mv 2 5] [2]
 .ret))
theorem EI:aE prog 89 6 [⟨2,true,none⟩] uj=true:=by kernel_rfl
theorem EZ{n_0}{s:ab}{Q:List AV->ab->Prop}:ok (iQ n_0) (fun r=>Q [.str r.b] s)->FN prog 89 [.int .i64 n_0] s Q:=by
 intro h
 refine FO EI rfl rfl ?_
 revert h
 rw[uj,iQ]
 repeat'(first
  |with_reducible refine ah (fun _(h:fW iu (aa.mk 2 n_0 (ar.mk []) ([]:List aa))=some _)=>(by refine gL ?_ (yZ h);simp -implicitDefEqProofs only[go_sem,seval])) (fun r1=>?_)
  |simp -implicitDefEqProofs only[go_sem,seval])
theorem uz{n_0}{s:ab}{r:ar}(h:iQ n_0=some r):FE prog 89 [.int .i64 n_0] s [.str r.b] s:=EZ ⟨r,h,rfl,rfl⟩
def n5(n_0:Int)(o_1:af):Option (ar):=
 aJ (iQ n_0) fun r1=>
 aB (((r1.b.length+(ar.mk [32,48,32,111,98,106,10]).b.length:Nat):Int)<=tq)<|
 if !o_1.Stream then
  aJ (fW iu o_1.V) fun r2=>
  aB ((((ar.mk (r1.b++(ar.mk [32,48,32,111,98,106,10]).b)).b.length+r2.b.length:Nat):Int)<=tq)<|
  aB ((((ar.mk ((ar.mk (r1.b++(ar.mk [32,48,32,111,98,106,10]).b)).b++r2.b)).b.length+(ar.mk [10,101,110,100,111,98,106,10]).b.length:Nat):Int)<=tq)<|
  some (ar.mk ((ar.mk ((ar.mk (r1.b++(ar.mk [32,48,32,111,98,106,10]).b)).b++r2.b)).b++(ar.mk [10,101,110,100,111,98,106,10]).b))
 else
  none
def vM:IC:=
 (ae [i1 3 (.b8 6 (.t 1)),cZ 4 (.str [])] [0,3]
 (ae [mv 7 0,c1 8 89 7,i1 9 (.bin .add (.t 8) (.c (.str [32,48,32,111,98,106,10]))),mv 5 9] [3,5]
 (.seq (ae [fa 10 4 3,ld 11 1 10,no 12 11] [3,5,12]
 (.cond (.t 12) (ae [mv 13 5,fa 14 0 3,lm 15 4 14,c1 16 141 15,bt 17 .add 13 16,i1 18 (.bin .add (.t 17) (.c (.str [10,101,110,100,111,98,106,10]))),mv 4 18] [4]
 .ret)
 .dead))
 .dead)))
theorem Hg:aE prog 88 35 [⟨4,true,none⟩] vM=true:=by kernel_rfl
theorem Il{n_0 o_1}{s:ab}{Q:List AV->ab->Prop}:ok (n5 n_0 o_1) (fun r=>Q [.str r.b] s)->FN prog 88 [.int .i64 n_0,.agg [.int .i64 o_1.V.Kind,.int .i64 o_1.V.N,.str o_1.V.S.b,sF 4 o_1.V.L,.bool o_1.Stream,.str o_1.Data.b]] s Q:=by
 intro h
 refine FO Hg rfl rfl ?_
 revert h
 rw[vM,n5]
 repeat'(first
  |(with_reducible first|exact bW|refine bj ?_ ?_|refine ch ?_|refine ah (fun _(h:iQ n_0=some _)=>uz h) (fun r1=>?_)|refine ah (fun _(h:fW iu o_1.V=some _)=>yZ h) (fun r2=>?_))
  |simp -implicitDefEqProofs only[go_sem,seval])
theorem Ik{n_0 o_1}{s:ab}{r:ar}(h:n5 n_0 o_1=some r):FE prog 88 [.int .i64 n_0,.agg [.int .i64 o_1.V.Kind,.int .i64 o_1.V.N,.str o_1.V.S.b,sF 4 o_1.V.L,.bool o_1.Stream,.str o_1.Data.b]] s [.str r.b] s:=Il ⟨r,h,rfl,rfl⟩
def nt(d_0:aD):Option ((List UInt8)):=
 jn (
  iter (fun((jt,k4):ar×Int)=>
   if decide (k4<(d_0.ak.length:Int))then
    aB (0<=k4/\k4<d_0.ak.length)<|
    aJ (n5 (bd (k4+1)) (ix d_0.ak k4)) fun r7=>
    aB (((jt.b.length+r7.b.length:Nat):Int)<=tq)<|
    some (.inl (ar.mk (jt.b++r7.b),bd (k4+1)))
   else
    some (.inr jt)) ((ar.mk [37,80,68,70,45,49,46,55,10]),0)) fun(fZ:ar)=>
 aB (((fZ.b.length+(ar.mk [116,114,97,105,108,101,114,10,60,60,47,82,111,111,116,32]).b.length:Nat):Int)<=tq)<|
 aJ (iQ d_0.cM) fun r8=>
 aB ((((ar.mk (fZ.b++(ar.mk [116,114,97,105,108,101,114,10,60,60,47,82,111,111,116,32]).b)).b.length+r8.b.length:Nat):Int)<=tq)<|
 aB ((((ar.mk ((ar.mk (fZ.b++(ar.mk [116,114,97,105,108,101,114,10,60,60,47,82,111,111,116,32]).b)).b++r8.b)).b.length+(ar.mk [32,48,32,82,62,62,10]).b.length:Nat):Int)<=tq)<|
 some ((ar.mk ((ar.mk ((ar.mk (fZ.b++(ar.mk [116,114,97,105,108,101,114,10,60,60,47,82,111,111,116,32]).b)).b++r8.b)).b++(ar.mk [32,48,32,82,62,62,10]).b)).b)
def sj:IC:=
 (ae [i1 1 (.b8 2 (.t 0)),i1 2 (.ib true (.c (.sl true 1 0 [])))] [1]
 (ae [cZ 3 (.str [37,80,68,70,45,49,46,55,10])] [1,3]
 (.join [(1,false),(3,false)] (ae [mi 4 0] [1,3,4]
 (.block 0 (.loop [(1,false),(3,false),(4,false)] (.seq (ae [mv 5 4,fa 6 0 1,ld 7 1 6,le 8 0 7,bt 9 .lss 5 8] [1,3,4,9]
 (.cond (.t 9) .skip
 (.exit 0)))
 (.seq (.block 1 (.bJ none [mv 12 3,mv 13 4,bn 14 .add 13 1,fa 15 0 1,ld 16 1 15,mv 17 4,ia 18 TR 16 17,lm 19 6 18,c2 20 88 14 19,bt 21 .add 12 20,mv 3 21] [1,3,4]))
 (.bJ none [mv 10 4,bn 11 .add 10 1,mv 4 11] [1,3,4]))))))
 (ae [mv 22 3,i1 23 (.bin .add (.t 22) (.c (.str [116,114,97,105,108,101,114,10,60,60,47,82,111,111,116,32]))),fa 24 1 1,ld 25 1 24,c1 26 89 25,bt 27 .add 23 26,i1 28 (.bin .add (.t 27) (.c (.str [32,48,32,82,62,62,10]))),i1 29 (.gS (.t 28)),mv 2 29] [2]
 .ret))))
theorem Cz:aE prog 44 30 [⟨2,true,none⟩] sj=true:=by kernel_rfl
theorem CP{d_0}{s:ab}{Q:List AV->ab->Prop}:ok (nt d_0) (fun r=>Q [sF 1 r] s)->FN prog 44 [.agg [sF 6 d_0.ak,.int .i64 d_0.cM]] s Q:=by
 intro h
 refine FO Cz rfl rfl ?_
 revert h
 rw[sj,nt]
 repeat'(first
  |(with_reducible first|exact bW|refine bj ?_ ?_|refine ch ?_|refine ah (fun _(h:n5 (bd (k4+1)) (ix d_0.ak k4)=some _)=>Ik h) (fun r7=>?_)|refine ah (fun _(h:iQ d_0.cM=some _)=>uz h) (fun r8=>?_))
  |((with_reducible refine aY (fun((jt,k4):ar×Int)=>⟨[(1,.loc [sF 6 d_0.ak,.int .i64 d_0.cM]),(3,.str jt.b),(4,.int .i64 k4)],[],s⟩) ?_ ?_);(first|exact rfl|simp -implicitDefEqProofs only[go_sem,seval]);rintro J ⟨jt,k4⟩)
  |((with_reducible refine bT (fun(fZ:ar)=>⟨[(1,.loc [sF 6 d_0.ak,.int .i64 d_0.cM]),(3,.str fZ.b)],[],s⟩) (fun J=>?_) ?_);rotate_left;rintro fZ)
  |simp -implicitDefEqProofs only[go_sem,seval])
theorem CO{d_0}{s:ab}{r:(List UInt8)}(h:nt d_0=some r):FE prog 44 [.agg [sF 6 d_0.ak,.int .i64 d_0.cM]] s [sF 1 r] s:=CP ⟨r,h,rfl,rfl⟩
def fh(n_0:Int):Option (aa):=some (aa.mk 8 n_0 (ar.mk []) ([]:List aa))
def vX:IC:=
 (ae [i1 2 (.an gj)] [0,2]
 (ae [mv 3 0,i1 4 (.build gj [(0,1,(.c (.int .i64 8))),(1,1,(.t 3))]),st 4 2 4] [2]
 .ret))
theorem Hr:aE prog 85 5 [⟨2,false,some (4,true)⟩] vX=true:=by kernel_rfl
theorem I0{n_0}{s:ab}{Q:List AV->ab->Prop}:ok (fh n_0) (fun r=>Q [oV r] s)->FN prog 85 [.int .i64 n_0] s Q:=by
 intro h
 refine FO Hr rfl rfl ?_
 revert h
 rw[vX,fh]
 repeat'(first
  |simp -implicitDefEqProofs only[go_sem,seval])
theorem mw{n_0}{s:ab}{r:aa}(h:fh n_0=some r):FE prog 85 [.int .i64 n_0] s [oV r] s:=I0 ⟨r,h,rfl,rfl⟩
def jO(n_0:Int):Option (aa):=some (aa.mk 2 n_0 (ar.mk []) ([]:List aa))
def vW:IC:=
 (ae [i1 2 (.an gj)] [0,2]
 (ae [mv 3 0,i1 4 (.build gj [(0,1,(.c (.int .i64 2))),(1,1,(.t 3))]),st 4 2 4] [2]
 .ret))
theorem Hq:aE prog 87 5 [⟨2,false,some (4,true)⟩] vW=true:=by kernel_rfl
theorem IZ{n_0}{s:ab}{Q:List AV->ab->Prop}:ok (jO n_0) (fun r=>Q [oV r] s)->FN prog 87 [.int .i64 n_0] s Q:=by
 intro h
 refine FO Hq rfl rfl ?_
 revert h
 rw[vW,jO]
 repeat'(first
  |simp -implicitDefEqProofs only[go_sem,seval])
theorem w8{n_0}{s:ab}{r:aa}(h:jO n_0=some r):FE prog 87 [.int .i64 n_0] s [oV r] s:=IZ ⟨r,h,rfl,rfl⟩
def qM:Option (aD):=
 aJ (bf (ar.mk [84,121,112,101])) fun r1=>
 aJ (bf (ar.mk [67,97,116,97,108,111,103])) fun r2=>
 aJ (bf (ar.mk [80,97,103,101,115])) fun r3=>
 aJ (fh 2) fun r4=>
 aJ (di [r1,r2,r3,r4]) fun r5=>
 aJ (bf (ar.mk [84,121,112,101])) fun r6=>
 aJ (bf (ar.mk [80,97,103,101,115])) fun r7=>
 aJ (bf (ar.mk [75,105,100,115])) fun r8=>
 aJ (fh 4) fun r9=>
 aJ (bf (ar.mk [67,111,117,110,116])) fun r10=>
 aJ (jO 1) fun r11=>
 aJ (di [r6,r7,r8,(aa.mk 6 0 (ar.mk []) [r9]),r10,r11]) fun r12=>
 aJ (bf (ar.mk [84,121,112,101])) fun r13=>
 aJ (bf (ar.mk [80,97,103,101])) fun r14=>
 aJ (bf (ar.mk [80,97,114,101,110,116])) fun r15=>
 aJ (fh 2) fun r16=>
 aJ (bf (ar.mk [65])) fun r17=>
 aJ (fh 3) fun r18=>
 aJ (di [r13,r14,r15,r16,r17,r18]) fun r19=>
 aJ (jO 7) fun r20=>
 some (aD.mk [(af.mk r5 false (ar.mk [])),(af.mk r12 false (ar.mk [])),(af.mk r20 false (ar.mk [])),(af.mk r19 false (ar.mk []))] 1)
theorem Fp:(pR prog 84=true)=True:=eq_true (by kernel_rfl)
theorem Fq:(pR prog 85=true)=True:=eq_true (by kernel_rfl)
def vB:IC:=
 (ae [i1 0 (.an [.sl true 6 0 [],.int .i64 0])] [0]
 (ae [cZ 1 (.fn 84 [] []),cZ 2 (.fn 85 [] [])] [0,1,2]
 (ae [mv 6 1,i1 7 (.cG (.t 6) [(.c (.str [84,121,112,101]))]),mv 8 1,i1 9 (.cG (.t 8) [(.c (.str [67,97,116,97,108,111,103]))]),mv 10 1,i1 11 (.cG (.t 10) [(.c (.str [80,97,103,101,115]))]),mv 12 2,i1 13 (.cG (.t 12) [(.c (.int .i64 2))]),i1 14 (.aN 4 4 [.int .i64 0,.int .i64 0,.str [],.sl true 4 0 [],.int .i64 0,.int .i64 0,.str [],.sl true 4 0 [],.int .i64 0,.int .i64 0,.str [],.sl true 4 0 [],.int .i64 0,.int .i64 0,.str [],.sl true 4 0 []] [(0,4,(.t 7)),(4,4,(.t 9)),(8,4,(.t 11)),(12,4,(.t 13))]),c1 15 86 14,i1 3 (.an gj),st 4 3 15] [0,1,2,3]
 (ae [mv 16 1,i1 17 (.cG (.t 16) [(.c (.str [84,121,112,101]))]),mv 18 1,i1 19 (.cG (.t 18) [(.c (.str [80,97,103,101,115]))]),mv 20 1,i1 21 (.cG (.t 20) [(.c (.str [75,105,100,115]))]),mv 22 2,i1 23 (.cG (.t 22) [(.c (.int .i64 4))]),i1 24 (.aN 4 1 gj [(0,4,(.t 23))]),i1 25 (.build gj [(0,1,(.c (.int .i64 6))),(3,1,(.t 24))]),mv 26 1,i1 27 (.cG (.t 26) [(.c (.str [67,111,117,110,116]))]),i1 28 (.call 87 [(.c (.int .i64 1))]),i1 29 (.aN 4 6 [.int .i64 0,.int .i64 0,.str [],.sl true 4 0 [],.int .i64 0,.int .i64 0,.str [],.sl true 4 0 [],.int .i64 0,.int .i64 0,.str [],.sl true 4 0 [],.int .i64 0,.int .i64 0,.str [],.sl true 4 0 [],.int .i64 0,.int .i64 0,.str [],.sl true 4 0 [],.int .i64 0,.int .i64 0,.str [],.sl true 4 0 []] [(0,4,(.t 17)),(4,4,(.t 19)),(8,4,(.t 21)),(12,4,(.t 25)),(16,4,(.t 27)),(20,4,(.t 28))]),c1 30 86 29,i1 4 (.an gj),st 4 4 30] [0,1,2,3,4]
 (ae [mv 31 1,i1 32 (.cG (.t 31) [(.c (.str [84,121,112,101]))]),mv 33 1,i1 34 (.cG (.t 33) [(.c (.str [80,97,103,101]))]),mv 35 1,i1 36 (.cG (.t 35) [(.c (.str [80,97,114,101,110,116]))]),mv 37 2,i1 38 (.cG (.t 37) [(.c (.int .i64 2))]),mv 39 1,i1 40 (.cG (.t 39) [(.c (.str [65]))]),mv 41 2,i1 42 (.cG (.t 41) [(.c (.int .i64 3))]),i1 43 (.aN 4 6 [.int .i64 0,.int .i64 0,.str [],.sl true 4 0 [],.int .i64 0,.int .i64 0,.str [],.sl true 4 0 [],.int .i64 0,.int .i64 0,.str [],.sl true 4 0 [],.int .i64 0,.int .i64 0,.str [],.sl true 4 0 [],.int .i64 0,.int .i64 0,.str [],.sl true 4 0 [],.int .i64 0,.int .i64 0,.str [],.sl true 4 0 []] [(0,4,(.t 32)),(4,4,(.t 34)),(8,4,(.t 36)),(12,4,(.t 38)),(16,4,(.t 40)),(20,4,(.t 42))]),c1 44 86 43,i1 5 (.an gj),st 4 5 44] [0,3,4,5]
 (.seq (.bJ (some 10) [lm 45 4 3,i1 46 (.build qR [(0,4,(.t 45))]),lm 47 4 4,i1 48 (.build qR [(0,4,(.t 47))]),i1 49 (.call 87 [(.c (.int .i64 7))]),i1 50 (.build qR [(0,4,(.t 49))]),lm 51 4 5,i1 52 (.build qR [(0,4,(.t 51))]),i1 53 (.aN 6 4 [.int .i64 0,.int .i64 0,.str [],.sl true 4 0 [],.bool false,.str [],.int .i64 0,.int .i64 0,.str [],.sl true 4 0 [],.bool false,.str [],.int .i64 0,.int .i64 0,.str [],.sl true 4 0 [],.bool false,.str [],.int .i64 0,.int .i64 0,.str [],.sl true 4 0 [],.bool false,.str []] [(0,6,(.t 46)),(6,6,(.t 48)),(12,6,(.t 50)),(18,6,(.t 52))]),i1 54 (.build [.sl true 6 0 [],.int .i64 0] [(0,1,(.t 53)),(1,1,(.c (.int .i64 1)))]),st 2 0 54] [0])
 .ret))))))
theorem GX:aE prog 43 55 [⟨0,false,some (2,true)⟩] vB=true:=by kernel_rfl
theorem Hx{s:ab}{Q:List AV->ab->Prop}:ok (qM) (fun r=>Q [.agg [sF 6 r.ak,.int .i64 r.cM]] s)->FN prog 43 [] s Q:=by
 intro h
 refine FO GX rfl rfl ?_
 revert h
 rw[vB,qM]
 repeat'(first
  |((fail_if_success (have _x:=r1));with_reducible refine ah (fun _(h:bf (ar.mk [84,121,112,101])=some _)=>cc h) (fun r1=>?_))
  |with_reducible refine ah (fun _(h:bf (ar.mk [67,97,116,97,108,111,103])=some _)=>cc h) (fun r2=>?_)
  |((fail_if_success (have _x:=r3));with_reducible refine ah (fun _(h:bf (ar.mk [80,97,103,101,115])=some _)=>cc h) (fun r3=>?_))
  |((fail_if_success (have _x:=r4));with_reducible refine ah (fun _(h:fh 2=some _)=>mw h) (fun r4=>?_))
  |with_reducible refine ah (fun _(h:di [r1,r2,r3,r4]=some _)=>(by refine gL ?_ (kp h);simp -implicitDefEqProofs only[go_sem,seval,Fp,Fq])) (fun r5=>?_)
  |((fail_if_success (have _x:=r6));with_reducible refine ah (fun _(h:bf (ar.mk [84,121,112,101])=some _)=>cc h) (fun r6=>?_))
  |((fail_if_success (have _x:=r7));with_reducible refine ah (fun _(h:bf (ar.mk [80,97,103,101,115])=some _)=>cc h) (fun r7=>?_))
  |(with_reducible first|refine ah (fun _(h:bf (ar.mk [75,105,100,115])=some _)=>cc h) (fun r8=>?_)|refine ah (fun _(h:fh 4=some _)=>mw h) (fun r9=>?_)|refine ah (fun _(h:bf (ar.mk [67,111,117,110,116])=some _)=>cc h) (fun r10=>?_)|refine ah (fun _(h:jO 1=some _)=>w8 h) (fun r11=>?_)|refine ah (fun _(h:di [r6,r7,r8,(aa.mk 6 0 (ar.mk []) [r9]),r10,r11]=some _)=>(by refine gL ?_ (kp h);simp -implicitDefEqProofs only[go_sem,seval,Fp,Fq])) (fun r12=>?_))
  |((fail_if_success (have _x:=r13));with_reducible refine ah (fun _(h:bf (ar.mk [84,121,112,101])=some _)=>cc h) (fun r13=>?_))
  |(with_reducible first|refine ah (fun _(h:bf (ar.mk [80,97,103,101])=some _)=>cc h) (fun r14=>?_)|refine ah (fun _(h:bf (ar.mk [80,97,114,101,110,116])=some _)=>cc h) (fun r15=>?_))
  |((fail_if_success (have _x:=r16));with_reducible refine ah (fun _(h:fh 2=some _)=>mw h) (fun r16=>?_))
  |(with_reducible first|refine ah (fun _(h:bf (ar.mk [65])=some _)=>cc h) (fun r17=>?_)|refine ah (fun _(h:fh 3=some _)=>mw h) (fun r18=>?_)|refine ah (fun _(h:di [r13,r14,r15,r16,r17,r18]=some _)=>(by refine gL ?_ (kp h);simp -implicitDefEqProofs only[go_sem,seval,Fp,Fq])) (fun r19=>?_)|refine ba (fun _(h:jO 7=some _)=>w8 h) (fun _=>rfl) (fun r20=>?_))
  |simp -implicitDefEqProofs only[go_sem,seval,Fp,Fq])
theorem wq{s:ab}{r:aD}(h:qM=some r):FE prog 43 [] s [.agg [sF 6 r.ak,.int .i64 r.cM]] s:=Hx ⟨r,h,rfl,rfl⟩
def xH(b_0:(List UInt8))(cX:Int):Option (Int×Bool):=
 aB (0<=cX/\cX<b_0.length)<|
 aB ((!(decide (((ix b_0 cX).toNat:Int)<48)))=true->0<=cX/\cX<b_0.length)<|
 if(decide (((ix b_0 cX).toNat:Int)<48))||(decide (((ix b_0 cX).toNat:Int)>57))then
  some (0,false)
 else
  aJ (fG b_0 cX true) fun r1=>
  if((r1.2.2 !=0)||(decide (r1.1<1)))||(decide (r1.1>4096))then
   some (0,false)
  else
   aJ (fG b_0 r1.2.1 true) fun r2=>
   if(r2.2.2 !=0)||(r2.1 !=0)then
    some (0,false)
   else
    aJ (kV b_0 r2.2.1 true (ar.mk [111,98,106])) fun r3=>
    some (r1.1,r3.2==0)
def Be:IC:=
 (ae [mi 4 0,cZ 5 (.bool false)] [0,1]
 (.seq (ae [mv 9 0,mv 10 1,ia 11 [.int .u8 0] 9 10,ld 12 1 11,bu 13 .lss 12 48,mv 14 13,df 15 0 14 false,df 16 1 14 false,du 17 14 false (.indexAddr [.int .u8 0] (.t 15) (.t 16)),lg 18 14 false 1 17,du 19 14 false (.bin .gtr (.t 18) (.c (.int .u8 57))),po 20 14 19] [0,1,20]
 (.cond (.t 20) (ae [mi 4 0,cZ 5 (.bool false)] [4,5]
 .ret)
 .skip))
 (ae [mv 22 0,mv 23 1,i1 24 (.call 69 [(.t 22),(.t 23),(.c (.bool true))]),gi 21 24,ex 25 21 0,ex 26 21 1,ex 27 21 2,mv 6 25,mv 1 26,mv 7 27] [0,1,6,7]
 (.seq (ae [mv 28 7,bn 29 .neq 28 0,mv 30 29,df 31 6 30 false,ju 32 30 false .lss 31 1,po 33 30 32,mv 34 33,df 35 6 34 false,ju 36 34 false .gtr 35 4096,po 37 34 36] [0,1,6,37]
 (.cond (.t 37) (ae [mi 4 0,cZ 5 (.bool false)] [4,5]
 .ret)
 .skip))
 (ae [mv 39 0,mv 40 1,i1 41 (.call 69 [(.t 39),(.t 40),(.c (.bool true))]),gi 38 41,ex 42 38 0,ex 43 38 1,ex 44 38 2,mv 8 42,mv 1 43,mv 7 44] [0,1,6,7,8]
 (.seq (ae [mv 45 7,bn 46 .neq 45 0,mv 47 46,df 48 8 47 false,ju 49 47 false .neq 48 0,po 50 47 49] [0,1,6,50]
 (.cond (.t 50) (ae [mi 4 0,cZ 5 (.bool false)] [4,5]
 .ret)
 .skip))
 (ae [mt 52 0,mv 53 1,i1 54 (.call 70 [(.t 52),(.t 53),(.c (.bool true)),(.c (.str [111,98,106]))]),gi 51 54,ex 55 51 0,ex 56 51 1,mv 7 56] [6,7]
 (ae [mv 57 6,mv 58 7,bn 59 .eql 58 0,mv 4 57,mv 5 59] [4,5]
 .ret))))))))
theorem MU:aE prog 32 60 [⟨4,true,none⟩,⟨5,true,none⟩] Be=true:=by kernel_rfl
theorem NW{b_0 cX}{s:ab}{Q:List AV->ab->Prop}:ok (xH b_0 cX) (fun r=>Q [.int .i64 r.1,.bool r.2] s)->FN prog 32 [sF 1 b_0,.int .i64 cX] s Q:=by
 intro h
 refine FO MU rfl rfl ?_
 revert h
 rw[Be,xH]
 repeat'(first
  |(with_reducible first|exact bW|refine bj ?_ ?_|refine ch ?_|refine ah (fun _(h:fG b_0 cX true=some _)=>oF h) (fun r1=>?_)|refine ah (fun _(h:fG b_0 r1.2.1 true=some _)=>oF h) (fun r2=>?_)|refine ah (fun _(h:kV b_0 r2.2.1 true (ar.mk [111,98,106])=some _)=>yV h) (fun r3=>?_))
  |simp -implicitDefEqProofs only[go_sem,seval])
theorem NV{b_0 cX}{s:ab}{r:Int×Bool}(h:xH b_0 cX=some r):FE prog 32 [sF 1 b_0,.int .i64 cX] s [.int .i64 r.1,.bool r.2] s:=NW ⟨r,h,rfl,rfl⟩
def xL(e_0:Int):Option (Bool):=some (((e_0==0)||(e_0==6))||(e_0==25))
def Bq:IC:=
 (ae [cZ 2 (.bool false)] [0]
 (ae [mv 3 0,bn 4 .eql 3 0,mv 5 4,df 6 0 5 false,ju 7 5 false .eql 6 6,po 8 5 7,mv 9 8,df 10 0 9 false,ju 11 9 false .eql 10 25,po 12 9 11,mv 2 12] [2]
 .ret))
theorem M6:aE prog 91 13 [⟨2,true,none⟩] Bq=true:=by kernel_rfl
theorem OO{e_0}{s:ab}{Q:List AV->ab->Prop}:ok (xL e_0) (fun r=>Q [.bool r] s)->FN prog 91 [.int .i64 e_0] s Q:=by
 intro h
 refine FO M6 rfl rfl ?_
 revert h
 rw[Bq,xL]
 repeat'(first
  |simp -implicitDefEqProofs only[go_sem,seval])
theorem ON{e_0}{s:ab}{r:Bool}(h:xL e_0=some r):FE prog 91 [.int .i64 e_0] s [.bool r] s:=OO ⟨r,h,rfl,rfl⟩
def nF(a_0:(List UInt8))(b_1:(List UInt8)):Option (Bool):=some ((ar.mk a_0).b==(ar.mk b_1).b)
def vx:IC:=
 (ae [cZ 4 (.bool false)] [0,1]
 (ae [mt 5 0,i1 6 (.fF (.t 5)),mt 7 1,i1 8 (.fF (.t 7)),bt 9 .eql 6 8,mv 4 9] [4]
 .ret))
theorem GU:aE prog 73 10 [⟨4,true,none⟩] vx=true:=by kernel_rfl
theorem F4{a_0 b_1}{s:ab}{Q:List AV->ab->Prop}:ok (nF a_0 b_1) (fun r=>Q [.bool r] s)->FN prog 73 [sF 1 a_0,sF 1 b_1] s Q:=by
 intro h
 refine FO GU rfl rfl ?_
 revert h
 rw[vx,nF]
 repeat'(first
  |simp -implicitDefEqProofs only[go_sem,seval])
theorem F3{a_0 b_1}{s:ab}{r:Bool}(h:nF a_0 b_1=some r):FE prog 73 [sF 1 a_0,sF 1 b_1] s [.bool r] s:=F4 ⟨r,h,rfl,rfl⟩
def kg(s_0:(List UInt8))(prefix_1:(List UInt8)):Option (Bool):=
 aB ((decide ((s_0.length:Int)>=(prefix_1.length:Int)))=true->0<=(0:Int)/\0<=(prefix_1.length:Int)/\(prefix_1.length:Int)<=s_0.length)<|
 aJ (mB (decide ((s_0.length:Int)>=(prefix_1.length:Int))) false (nF (part s_0 0 (prefix_1.length:Int)) prefix_1)) fun r1=>
 some ((decide ((s_0.length:Int)>=(prefix_1.length:Int)))&&r1)
def pS:IC:=
 (ae [cZ 4 (.bool false)] [0,1]
 (.seq (.bJ (some 12) [mv 5 0,le 6 0 5,mv 7 1,le 8 0 7,bt 9 .geq 6 8,mv 10 9,df 11 0 10 true,df 12 1 10 true,du 13 10 true (.len 0 (.t 12)),du 14 10 true (.slice 1 (.t 11) none (some (.t 13)) none),df 15 1 10 true,qd2 16 10 true 73 14 15,pf 17 10 16,mv 4 17] [4])
 .ret))
theorem zG:aE prog 35 18 [⟨4,true,none⟩] pS=true:=by kernel_rfl
theorem ze{s_0 prefix_1}{s:ab}{Q:List AV->ab->Prop}:ok (kg s_0 prefix_1) (fun r=>Q [.bool r] s)->FN prog 35 [sF 1 s_0,sF 1 prefix_1] s Q:=by
 intro h
 refine FO zG rfl rfl ?_
 revert h
 rw[pS,kg]
 repeat'(first
  |(with_reducible first|exact bW|refine bj ?_ ?_|refine fP rfl (fun _(h:nF (part s_0 0 (prefix_1.length:Int)) prefix_1=some _)=>F3 h) (fun _=>rfl) (fun r1=>?_))
  |simp -implicitDefEqProofs only[go_sem,seval])
theorem zd{s_0 prefix_1}{s:ab}{r:Bool}(h:kg s_0 prefix_1=some r):FE prog 35 [sF 1 s_0,sF 1 prefix_1] s [.bool r] s:=ze ⟨r,h,rfl,rfl⟩
end Go.AB
end
