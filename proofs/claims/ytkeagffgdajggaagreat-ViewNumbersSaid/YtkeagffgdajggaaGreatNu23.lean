/- A part of the proof: Vo0. -/
import Derived.Test.YtkeagffgdajggaaGreatNu13
import Derived.Test.YtkeagffgdajggaaGreatNu22
import Derived.Test.YtkeagffgdajggaaGreatNu15
set_option linter.unusedSimpArgs false
set_option linter.unusedVariables false
section
set_option maxRecDepth 4000
namespace Go.AB
open Go
open Go.Proofs.Tryz (prog)
attribute[-go_sem] cE da bM cD Nat.add_zero nr bV
structure BD where
 At:Int
 Gen:Int
 Used:Bool
 deriving DecidableEq
instance:aK BD:=⟨3,fun x=>[.int .i64 x.At,.int .i64 x.Gen,.bool x.Used],(BD.mk 0 0 false),by decide,fun _=>rfl,fun _=>rfl⟩
structure BE where
 agc:Int
 Entries:(List BD)
instance:aK BE:=⟨2,fun x=>[.int .i64 x.agc,sF 3 x.Entries],(BE.mk 0 []),by decide,fun _=>rfl,fun _=>rfl⟩
structure Bx where
 ach:(List BE)
 Trailer:aa
instance:aK Bx:=⟨5,fun x=>[sF 2 x.ach,.int .i64 x.Trailer.Kind,.int .i64 x.Trailer.N,.str x.Trailer.S.b,sF 4 x.Trailer.L],(Bx.mk [] (aa.mk 0 0 (aw.mk []) [])),by decide,fun _=>rfl,fun _=>rfl⟩
def oP(f_0:nd)(p_1:Int):Option (dP×Int×Int):=
 aW (jD f_0 p_1) fun r1=>
 if r1.2.2 !=0 then
  some ((dP.mk ([]:List ag) (aa.mk 0 0 (aw.mk []) ([]:List aa))),r1.2.1,r1.2.2)
 else
  aW (fx f_0 r1.1) fun r2=>
  if r2.2.2.2 !=0 then
   some ((dP.mk ([]:List ag) (aa.mk 0 0 (aw.mk []) ([]:List aa))),r2.2.2.1,r2.2.2.2)
  else
   aW (iI r2.1 r2.2.1 r1.1.an) fun r3=>
   some (r3,0,0)
def Gi:IC:=
 (af [i1 4 (.aq [.sl true 6 0 [],.int .i64 0,.int .i64 0,.str [],.sl true 4 0 []]),mi 5 0,mi 6 0] [0,1,4]
 (af [mv 13 0,mv 14 1,c2 15 46 13 14,iV 12 15,ex 16 12 0,ex 17 12 1,ex 18 12 2,i1 7 (.aq U8),st 6 7 16,mv 8 17,mv 9 18] [0,4,7,8,9]
 (.seq (af [mv 19 9,bn 20 .neq 19 0] [0,4,7,8,9,20]
 (.cond (.t 20) (af [i1 21 (.build [.sl true 6 0 [],.int .i64 0,.int .i64 0,.str [],.sl true 4 0 []] []),mv 22 8,mv 23 9,st 5 4 21,mv 5 22,mv 6 23] [4,5,6]
 .ret)
 .skip))
 (af [mv 25 0,lm 26 6 7,c2 27 47 25 26,iV 24 27,ex 28 24 0,ex 29 24 1,ex 30 24 2,ex 31 24 3,mt 10 28,mt 11 29,mv 8 30,mv 9 31] [4,7,8,9,10,11]
 (.seq (af [mv 32 9,bn 33 .neq 32 0] [4,7,8,9,10,11,33]
 (.cond (.t 33) (af [i1 34 (.build [.sl true 6 0 [],.int .i64 0,.int .i64 0,.str [],.sl true 4 0 []] []),mv 35 8,mv 36 9,st 5 4 34,mv 5 35,mv 6 36] [4,5,6]
 .ret)
 .skip))
 (af [mt 37 10,mt 38 11,fa 39 2 7,lm 40 4 39,c3 41 23 37 38 40,st 5 4 41,mi 5 0,mi 6 0] [4,5,6]
 .ret))))))
theorem Rn:aE prog 17 42 [⟨4,false,some (5,true)⟩,⟨5,true,none⟩,⟨6,true,none⟩] Gi=true:=by kernel_rfl
theorem Sd{f_0 p_1}{s:ab}{Q:List AV->ab->Prop}(va0:dj s f_0):ok (oP f_0 p_1) (fun r=>Q [.agg [sF 6 r.1.ae,.int .i64 r.1.an.Kind,.int .i64 r.1.an.N,.str r.1.an.S.b,sF 4 r.1.an.L],.int .i64 r.2.1,.int .i64 r.2.2] s)->FN prog 17 [.ref f_0.B 0,.int .i64 p_1] s Q:=by
 intro h
 refine FO Rn rfl rfl ?_
 revert h
 rw[Gi,oP]
 repeat'(first
  |(with_reducible first|exact cW|refine bK ?_ ?_|refine de ?_|refine ak (fun _(h:jD f_0 p_1=some _)=>Nt (dj.mono (by assumption) (by repeat'(first|exact Sub.refl _|refine Sub.set ?_ ?_|assumption|(simp[ab.set, *];done)))) h) (fun r1=>?_)|refine ak (fun _(h:fx f_0 r1.1=some _)=>CA (dj.mono (by assumption) (by repeat'(first|exact Sub.refl _|refine Sub.set ?_ ?_|assumption|(simp[ab.set, *];done)))) h) (fun r2=>?_)|refine ak (fun _(h:iI r2.1 r2.2.1 r1.1.an=some _)=>CT h) (fun r3=>?_))
  |simp -implicitDefEqProofs only[go_sem,seval])
theorem th{f_0 p_1}{s:ab}{r:dP×Int×Int}(va0:dj s f_0)(h:oP f_0 p_1=some r):FE prog 17 [.ref f_0.B 0,.int .i64 p_1] s [.agg [sF 6 r.1.ae,.int .i64 r.1.an.Kind,.int .i64 r.1.an.N,.str r.1.an.S.b,sF 4 r.1.an.L],.int .i64 r.2.1,.int .i64 r.2.2] s:=Sd va0 ⟨r,h,rfl,rfl⟩
def cw(tY:(List UInt8)):Option (UInt32×UInt32):=
 jn (
  iter (fun((OO,i4):UInt32×Int)=>
   if decide (i4>=0)then
    aG (0<=i4/\i4<tY.length)<|
    some (.inl (mS (((mS ((OO.toNat:Int)*16777619)).toNat:Int)+((mS (((ix tY i4).toNat:Int))).toNat:Int)),bj (i4 -1)))
   else
    some (.inr OO)) (0,bj ((tY.length:Int) -1))) fun(FW:UInt32)=>
 jn (
  iter (fun((Ux,R6,i11):UInt32×UInt32×Int)=>
   if decide (i11>0)then
    jn (
     if(bj (agh .i64 i11 1))!=0 then
      some (mS ((Ux.toNat:Int)*(R6.toNat:Int)))
     else
      some Ux) fun(Tg:UInt32)=>
    some (.inl (Tg,mS ((R6.toNat:Int)*(R6.toNat:Int)),aiS .i64 i11 1))
   else
    some (.inr Ux)) (1,16777619,(tY.length:Int))) fun(Z9:UInt32)=>
 some (FW,Z9)
def fG:IC:=
 (af [c6 2 (.int .u32 0),c6 3 (.int .u32 0)] [0]
 (af [c6 4 (.int .u32 0)] [0,4]
 (.join [(0,true),(4,false)] (af [mv 9 0,le 10 0 9,bn 11 .sub 10 1,mv 5 11] [0,4,5]
 (.block 0 (.loop [(0,true),(4,false),(5,false)] (.seq (af [mv 12 5,bn 13 .geq 12 0] [0,4,5,13]
 (.cond (.t 13) .skip
 (.exit 0)))
 (.seq (.block 1 (.bN none [mv 16 4,i1 17 (.bin .mul (.t 16) (.c (.int .u32 16777619))),mv 18 0,mv 19 5,ia 20 [.int .u8 0] 18 19,ld 21 1 20,i1 22 (.jI .u32 (.t 21)),bt 23 .add 17 22,mv 4 23] [0,4,5]))
 (.bN none [mv 14 5,bn 15 .sub 14 1,mv 5 15] [0,4,5]))))))
 (af [c6 6 (.int .u32 1),c6 7 (.int .u32 16777619)] [0,4,6,7]
 (.join [(4,false),(6,false)] (af [mt 24 0,le 25 0 24,mv 8 25] [4,6,7,8]
 (.block 2 (.loop [(4,false),(6,false),(7,false),(8,false)] (.seq (af [mv 26 8,bn 27 .gtr 26 0] [4,6,7,8,27]
 (.cond (.t 27) .skip
 (.exit 2)))
 (.seq (.block 3 (.join [(4,false),(6,false),(7,false),(8,false)] (af [mv 30 8,bn 31 .and 30 1,bn 32 .neq 31 0] [4,6,7,8,32]
 (.cond (.t 32) (.bN none [mv 33 6,mv 34 7,bt 35 .mul 33 34,mv 6 35] [4,6,7,8])
 .skip))
 (.bN none [mv 36 7,mv 37 7,bt 38 .mul 36 37,mv 7 38] [4,6,7,8])))
 (.bN none [mv 28 8,i1 29 (.bin .shr (.t 28) (.c (.int .u64 1))),mv 8 29] [4,6,7,8]))))))
 (af [mv 39 4,mv 40 6,mv 2 39,mv 3 40] [2,3]
 .ret))))))
theorem ko:aE prog 267 41 [⟨2,true,none⟩,⟨3,true,none⟩] fG=true:=by kernel_rfl
theorem kl{tY}{s:ab}{Q:List AV->ab->Prop}:ok (cw tY) (fun r=>Q [.int .u32 r.1.toNat,.int .u32 r.2.toNat] s)->FN prog 267 [sF 1 tY] s Q:=by
 intro h
 refine FO ko rfl rfl ?_
 revert h
 rw[fG,cw]
 repeat'(first
  |(with_reducible first|exact cW|refine bK ?_ ?_|refine de ?_)
  |((with_reducible refine bF (fun((OO,i4):UInt32×Int)=>⟨[(0,sF 1 tY),(4,.int .u32 OO.toNat),(5,.int .i64 i4)],[],s⟩) ?_ ?_);(first|exact rfl|simp -implicitDefEqProofs only[go_sem,seval]);rintro J ⟨OO,i4⟩)
  |((with_reducible refine dA (live:=[(0,true),(4,false)]) (fun(FW:UInt32)=>⟨[(0,sF 1 tY),(4,.int .u32 FW.toNat)],[],s⟩) (fun J=>?_) ?_);rotate_left;rintro FW)
  |((with_reducible refine dA (live:=[(4,false),(6,false),(7,false),(8,false)]) (fun(Tg:UInt32)=>⟨[(4,.int .u32 FW.toNat),(6,.int .u32 Tg.toNat),(7,.int .u32 R6.toNat),(8,.int .i64 i11)],[],s⟩) (fun J=>?_) ?_);rotate_left;rintro Tg)
  |((with_reducible refine bF (fun((Ux,R6,i11):UInt32×UInt32×Int)=>⟨[(4,.int .u32 FW.toNat),(6,.int .u32 Ux.toNat),(7,.int .u32 R6.toNat),(8,.int .i64 i11)],[],s⟩) ?_ ?_);(first|exact rfl|simp -implicitDefEqProofs only[go_sem,seval]);rintro J ⟨Ux,R6,i11⟩)
  |((with_reducible refine dA (live:=[(4,false),(6,false)]) (fun(Z9:UInt32)=>⟨[(4,.int .u32 FW.toNat),(6,.int .u32 Z9.toNat)],[],s⟩) (fun J=>?_) ?_);rotate_left;rintro Z9)
  |simp -implicitDefEqProofs only[go_sem,seval])
theorem kj{tY}{s:ab}{r:UInt32×UInt32}(h:cw tY=some r):FE prog 267 [sF 1 tY] s [.int .u32 r.1.toNat,.int .u32 r.2.toNat] s:=kl ⟨r,h,rfl,rfl⟩
def bD(s_0:(List UInt8))(cG:(List UInt8)):Option (Int):=
 aW (cw cG) fun r1=>
 jn (
  iter (fun((KS,h10,i11):Int×UInt32×Int)=>
   if decide (i11>=KS)then
    aG (0<=i11/\i11<s_0.length)<|
    some (.inl (KS,mS (((mS ((h10.toNat:Int)*16777619)).toNat:Int)+((mS (((ix s_0 i11).toNat:Int))).toNat:Int)),bj (i11 -1)))
   else
    some (.inr (KS,h10))) (bj ((s_0.length:Int) -(cG.length:Int)),0,bj ((s_0.length:Int) -1))) fun((GR,h8):Int×UInt32)=>
 aG (((h8.toNat:Int)==(r1.1.toNat:Int))=true->0<=GR/\GR<=(s_0.length:Int)/\(s_0.length:Int)<=s_0.length)<|
 if((h8.toNat:Int)==(r1.1.toNat:Int))&&((aw.mk (part s_0 GR (s_0.length:Int))).b==(aw.mk cG).b)then
  none
 else
  jn (
   aW (
    iter (fun((h19,i20):UInt32×Int)=>
     if decide (i20>=0)then
      aG (0<=i20/\i20<s_0.length)<|
      aG (0<=bj (i20+(cG.length:Int))/\bj (i20+(cG.length:Int))<s_0.length)<|
      aG ((((mS (((mS (((mS ((h19.toNat:Int)*16777619)).toNat:Int)+((mS (((ix s_0 i20).toNat:Int))).toNat:Int))).toNat:Int) -((mS ((r1.2.toNat:Int)*((mS (((ix s_0 (bj (i20+(cG.length:Int)))).toNat:Int))).toNat:Int))).toNat:Int))).toNat:Int)==(r1.1.toNat:Int))=true->0<=i20/\i20<=bj (i20+(cG.length:Int))/\bj (i20+(cG.length:Int))<=s_0.length)<|
      if(((mS (((mS (((mS ((h19.toNat:Int)*16777619)).toNat:Int)+((mS (((ix s_0 i20).toNat:Int))).toNat:Int))).toNat:Int) -((mS ((r1.2.toNat:Int)*((mS (((ix s_0 (bj (i20+(cG.length:Int)))).toNat:Int))).toNat:Int))).toNat:Int))).toNat:Int)==(r1.1.toNat:Int))&&((aw.mk (part s_0 i20 (bj (i20+(cG.length:Int))))).b==(aw.mk cG).b)then
       none
      else
       some (.inl (mS (((mS (((mS ((h19.toNat:Int)*16777619)).toNat:Int)+((mS (((ix s_0 i20).toNat:Int))).toNat:Int))).toNat:Int) -((mS ((r1.2.toNat:Int)*((mS (((ix s_0 (bj (i20+(cG.length:Int)))).toNat:Int))).toNat:Int))).toNat:Int)),bj (i20 -1)))
     else
      some (.inr ())) (h8,bj (GR -1))) fun(_:Unit)=>
   some ()) fun(_:Unit)=>
  some (-1)
def dR:IC:=
 (af [mi 4 0] [0,1]
 (af [mv 13 1,c1 14 267 13,iV 12 14,ex 15 12 0,ex 16 12 1,mv 5 15,mv 6 16] [0,1,5,6]
 (af [mv 17 1,le 18 0 17,mv 7 18] [0,1,5,6,7]
 (af [mv 19 0,le 20 0 19,mv 21 7,bt 22 .sub 20 21,mv 8 22] [0,1,5,6,7,8]
 (af [c6 9 (.int .u32 0)] [0,1,5,6,7,8,9]
 (.join [(0,true),(1,true),(5,false),(6,false),(7,false),(8,false),(9,false)] (af [mv 23 0,le 24 0 23,bn 25 .sub 24 1,mv 10 25] [0,1,5,6,7,8,9,10]
 (.block 0 (.loop [(0,true),(1,true),(5,false),(6,false),(7,false),(8,false),(9,false),(10,false)] (.seq (af [mv 26 10,mv 27 8,bt 28 .geq 26 27] [0,1,5,6,7,8,9,10,28]
 (.cond (.t 28) .skip
 (.exit 0)))
 (.seq (.block 1 (.bN none [mv 31 9,i1 32 (.bin .mul (.t 31) (.c (.int .u32 16777619))),mv 33 0,mv 34 10,ia 35 [.int .u8 0] 33 34,ld 36 1 35,i1 37 (.jI .u32 (.t 36)),bt 38 .add 32 37,mv 9 38] [0,1,5,6,7,8,9,10]))
 (.bN none [mv 29 10,bn 30 .sub 29 1,mv 10 30] [0,1,5,6,7,8,9,10]))))))
 (.seq (.seq (.bN (some 12) [mv 39 9,mv 40 5,bt 41 .eql 39 40,mv 42 41,dh 43 0 42 true,dh 44 8 42 true,dq 45 42 true (.slice 1 (.t 43) (some (.t 44)) none none),dq 46 42 true (.fo (.t 45)),dh 47 1 42 true,dq 48 42 true (.fo (.t 47)),sY 49 42 true .eql 46 48,pf 50 42 49] [0,1,5,6,7,8,9,50])
 (.cond (.t 50) .dead
 .skip))
 (.join [] (af [mv 52 8,bn 53 .sub 52 1,mv 11 53] [0,1,5,6,7,9,11]
 (.block 2 (.loop [(0,true),(1,true),(5,false),(6,false),(7,false),(9,false),(11,false)] (.seq (af [mv 54 11,bn 55 .geq 54 0] [0,1,5,6,7,9,11,55]
 (.cond (.t 55) .skip
 (.exit 2)))
 (.seq (.block 3 (af [mv 58 9,i1 59 (.bin .mul (.t 58) (.c (.int .u32 16777619))),mv 9 59] [0,1,5,6,7,9,11]
 (af [mv 60 9,mv 61 0,mv 62 11,ia 63 [.int .u8 0] 61 62,ld 64 1 63,i1 65 (.jI .u32 (.t 64)),bt 66 .add 60 65,mv 9 66] [0,1,5,6,7,9,11]
 (af [mv 67 9,mv 68 6,mv 69 0,mv 70 11,mv 71 7,bt 72 .add 70 71,ia 73 [.int .u8 0] 69 72,ld 74 1 73,i1 75 (.jI .u32 (.t 74)),bt 76 .mul 68 75,bt 77 .sub 67 76,mv 9 77] [0,1,5,6,7,9,11]
 (.seq (.bN (some 15) [mv 78 9,mv 79 5,bt 80 .eql 78 79,mv 81 80,dh 82 0 81 true,dh 83 11 81 true,dh 84 11 81 true,dh 85 7 81 true,sY 86 81 true .add 84 85,dq 87 81 true (.slice 1 (.t 82) (some (.t 83)) (some (.t 86)) none),dq 88 81 true (.fo (.t 87)),dh 89 1 81 true,dq 90 81 true (.fo (.t 89)),sY 91 81 true .eql 88 90,pf 92 81 91] [0,1,5,6,7,9,11,92])
 (.cond (.t 92) .dead
 .skip))))))
 (.bN none [mv 56 11,bn 57 .sub 56 1,mv 11 57] [0,1,5,6,7,9,11]))))))
 (af [mi 4 (-1)] [4]
 .ret)))))))))
theorem ib:aE prog 236 94 [⟨4,true,none⟩] dR=true:=by kernel_rfl
theorem hU{s_0 cG}{s:ab}{Q:List AV->ab->Prop}:ok (bD s_0 cG) (fun r=>Q [.int .i64 r] s)->FN prog 236 [sF 1 s_0,sF 1 cG] s Q:=by
 intro h
 refine FO ib rfl rfl ?_
 revert h
 rw[dR,bD]
 repeat'(first
  |(with_reducible first|exact cW|refine bK ?_ ?_|refine de ?_|refine ak (fun _(h:cw cG=some _)=>kj h) (fun r1=>?_))
  |((with_reducible refine bF (fun((KS,h10,i11):Int×UInt32×Int)=>⟨[(0,sF 1 s_0),(1,sF 1 cG),(5,.int .u32 r1.1.toNat),(6,.int .u32 r1.2.toNat),(7,.int .i64 (cG.length:Int)),(8,.int .i64 KS),(9,.int .u32 h10.toNat),(10,.int .i64 i11)],[],s⟩) ?_ ?_);(first|exact rfl|simp -implicitDefEqProofs only[go_sem,seval]);rintro J ⟨KS,h10,i11⟩)
  |((with_reducible refine dA (live:=[(0,true),(1,true),(5,false),(6,false),(7,false),(8,false),(9,false)]) (fun((GR,h8):Int×UInt32)=>⟨[(0,sF 1 s_0),(1,sF 1 cG),(5,.int .u32 r1.1.toNat),(6,.int .u32 r1.2.toNat),(7,.int .i64 (cG.length:Int)),(8,.int .i64 GR),(9,.int .u32 h8.toNat)],[],s⟩) (fun J=>?_) ?_);rotate_left;rintro⟨GR,h8⟩)
  |((with_reducible refine bF (fun((h19,i20):UInt32×Int)=>⟨[(0,sF 1 s_0),(1,sF 1 cG),(5,.int .u32 r1.1.toNat),(6,.int .u32 r1.2.toNat),(7,.int .i64 (cG.length:Int)),(9,.int .u32 h19.toNat),(11,.int .i64 i20)],[],s⟩) ?_ ?_);(first|exact rfl|simp -implicitDefEqProofs only[go_sem,seval]);rintro J ⟨h19,i20⟩)
  |((with_reducible refine dA (live:=[]) (fun(_:Unit)=>⟨[],[],s⟩) (fun J=>?_) ?_);rotate_left;rintro _)
  |simp -implicitDefEqProofs only[go_sem,seval])
theorem hE{s_0 cG}{s:ab}{r:Int}(h:bD s_0 cG=some r):FE prog 236 [sF 1 s_0,sF 1 cG] s [.int .i64 r] s:=hU ⟨r,h,rfl,rfl⟩
def ir(s_0:(List UInt8))(cG:(List UInt8)):Option (Int):=
 if(cG.length:Int)==0 then
  none
 else
  if(cG.length:Int)==1 then
   none
  else
   if(cG.length:Int)==(s_0.length:Int)then
    none
   else
    if decide ((cG.length:Int)>(s_0.length:Int))then
     none
    else
     aW (bD s_0 cG) fun r1=>
     some r1
def pC:IC:=
 (af [mi 4 0] [0,1]
 (af [mv 6 1,le 7 0 6,mv 5 7] [0,1,5]
 (.seq (.block 0 (af [mv 9 5,bn 10 .eql 9 0,mv 8 10] [0,1,5,8]
 (.cond (.t 8) .dead
 (af [mv 14 5,bn 15 .eql 14 1,mv 13 15] [0,1,5,13]
 (.cond (.t 13) .dead
 (af [mv 22 5,mv 23 0,le 24 0 23,bt 25 .eql 22 24,mv 21 25] [0,1,5,21]
 (.cond (.t 21) .dead
 (af [mv 30 5,mv 31 0,le 32 0 31,bt 33 .gtr 30 32,mv 29 33] [0,1,29]
 (.cond (.t 29) .dead
 .skip)))))))))
 (af [mt 34 0,mt 35 1,c2 36 236 34 35,mv 4 36] [4]
 .ret))))
theorem zc:aE prog 193 37 [⟨4,true,none⟩] pC=true:=by kernel_rfl
theorem yL{s_0 cG}{s:ab}{Q:List AV->ab->Prop}:ok (ir s_0 cG) (fun r=>Q [.int .i64 r] s)->FN prog 193 [sF 1 s_0,sF 1 cG] s Q:=by
 intro h
 refine FO zc rfl rfl ?_
 revert h
 rw[pC,ir]
 repeat'(first
  |(with_reducible first|exact cW|refine bK ?_ ?_|refine de ?_|refine ak (fun _(h:bD s_0 cG=some _)=>hE h) (fun r1=>?_))
  |simp -implicitDefEqProofs only[go_sem,seval])
theorem yK{s_0 cG}{s:ab}{r:Int}(h:ir s_0 cG=some r):FE prog 193 [sF 1 s_0,sF 1 cG] s [.int .i64 r] s:=yL ⟨r,h,rfl,rfl⟩
def nk(s_0:II):Option (Int×Int×Int):=
 aW (ph s_0) fun r1=>
 aW (rk s_0 (max 0 (bj (r1 -64))) 64) fun r2=>
 if !r2.2 then
  none
 else
  aW (ir r2.1 [115,116,97,114,116,120,114,101,102]) fun r3=>
  if decide (r3<0)then
   some (0,0,22)
  else
   none
def uZ:IC:=
 (af [mi 2 0,mi 3 0,mi 4 0] [0]
 (af [mv 12 0,c1 13 62 12,bn 14 .sub 13 64,i1 15 (.fP true [(.c (.int .i64 0)),(.t 14)]),mv 5 15] [0,5]
 (af [mv 17 0,mv 18 5,i1 19 (.call 61 [(.t 17),(.t 18),(.c (.int .i64 64))]),iV 16 19,ex 20 16 0,ex 21 16 1,mt 6 20,mv 7 21] [6,7]
 (.seq (af [mv 22 7,no 23 22] [6,23]
 (.cond (.t 23) .dead
 .skip))
 (af [mt 27 6,i1 28 (.bq 1 9 [.int .u8 0,.int .u8 0,.int .u8 0,.int .u8 0,.int .u8 0,.int .u8 0,.int .u8 0,.int .u8 0,.int .u8 0] [(0,1,(.c (.int .u8 115))),(1,1,(.c (.int .u8 116))),(2,1,(.c (.int .u8 97))),(3,1,(.c (.int .u8 114))),(4,1,(.c (.int .u8 116))),(5,1,(.c (.int .u8 120))),(6,1,(.c (.int .u8 114))),(7,1,(.c (.int .u8 101))),(8,1,(.c (.int .u8 102)))]),i1 29 (.kc (.t 28)),c2 30 193 27 29,mv 8 30] [8]
 (.seq (af [mv 31 8,bn 32 .lss 31 0] [32]
 (.cond (.t 32) (af [mi 2 0,mi 3 0,mi 4 22] [2,3,4]
 .ret)
 .dead))
 .dead))))))
theorem Gq:aE prog 143 54 [⟨2,true,none⟩,⟨3,true,none⟩,⟨4,true,none⟩] uZ=true:=by kernel_rfl
theorem FF{s_0}{s:ab}{Q:List AV->ab->Prop}(va0:iW s s_0):ok (nk s_0) (fun r=>Q [.int .i64 r.1,.int .i64 r.2.1,.int .i64 r.2.2] s)->FN prog 143 [.ref s_0.B 0] s Q:=by
 intro h
 refine FO Gq rfl rfl ?_
 revert h
 rw[uZ,nk]
 repeat'(first
  |(with_reducible first|exact cW|refine bK ?_ ?_|refine de ?_|refine ak (fun _(h:ph s_0=some _)=>xF (iW.mono (by assumption) (by repeat'(first|exact Sub.refl _|refine Sub.set ?_ ?_|assumption|(simp[ab.set, *];done)))) h) (fun r1=>?_)|refine ak (fun _(h:rk s_0 (max 0 (bj (r1 -64))) 64=some _)=>zW (iW.mono (by assumption) (by repeat'(first|exact Sub.refl _|refine Sub.set ?_ ?_|assumption|(simp[ab.set, *];done)))) h) (fun r2=>?_)|refine ak (fun _(h:ir r2.1 [115,116,97,114,116,120,114,101,102]=some _)=>(by refine jZ ?_ (yK h);simp -implicitDefEqProofs only[go_sem,seval])) (fun r3=>?_))
  |simp -implicitDefEqProofs only[go_sem,seval])
theorem FD{s_0}{s:ab}{r:Int×Int×Int}(va0:iW s s_0)(h:nk s_0=some r):FE prog 143 [.ref s_0.B 0] s [.int .i64 r.1,.int .i64 r.2.1,.int .i64 r.2.2] s:=FF va0 ⟨r,h,rfl,rfl⟩
def pq(s_0:II):Option (cF×Int×Int):=
 aW (nk s_0) fun r1=>
 if r1.2.2 !=0 then
  some ((cF.mk ([]:List Int) 0),r1.2.1,r1.2.2)
 else
  none
def xQ:IC:=
 (af [i1 2 (.aq [.sl true 1 0 [],.int .i64 0]),mi 3 0,mi 4 0] [0,2]
 (af [mv 11 0,c1 12 143 11,iV 10 12,ex 13 10 0,ex 14 10 1,ex 15 10 2,mv 5 13,mv 6 14,mv 7 15] [2,6,7]
 (.seq (af [mv 16 7,bn 17 .neq 16 0] [2,6,7,17]
 (.cond (.t 17) (af [i1 18 (.build [.sl true 1 0 [],.int .i64 0] []),mv 19 6,mv 20 7,st 2 2 18,mv 3 19,mv 4 20] [2,3,4]
 .ret)
 .dead))
 .dead)))
theorem I6:aE prog 90 40 [⟨2,false,some (2,true)⟩,⟨3,true,none⟩,⟨4,true,none⟩] xQ=true:=by kernel_rfl
theorem IQ{s_0}{s:ab}{Q:List AV->ab->Prop}(va0:iW s s_0):ok (pq s_0) (fun r=>Q [.agg [sF 1 r.1.fE,.int .i64 r.1.cM],.int .i64 r.2.1,.int .i64 r.2.2] s)->FN prog 90 [.ref s_0.B 0] s Q:=by
 intro h
 refine FO I6 rfl rfl ?_
 revert h
 rw[xQ,pq]
 repeat'(first
  |with_reducible refine ak (fun _(h:nk s_0=some _)=>FD (iW.mono (by assumption) (by repeat'(first|exact Sub.refl _|refine Sub.set ?_ ?_|assumption|(simp[ab.set, *];done)))) h) (fun r1=>?_)
  |simp -implicitDefEqProofs only[go_sem,seval])
theorem IP{s_0}{s:ab}{r:cF×Int×Int}(va0:iW s s_0)(h:pq s_0=some r):FE prog 90 [.ref s_0.B 0] s [.agg [sF 1 r.1.fE,.int .i64 r.1.cM],.int .i64 r.2.1,.int .i64 r.2.2] s:=IQ va0 ⟨r,h,rfl,rfl⟩
def nL(v_0:aa):Option (Int):=
 if(!(v_0.S.b==(aw.mk []).b))||((v_0.L.length:Int)!=0)then
  none
 else
  if((v_0.Kind==2)&&(decide (v_0.N>=(-2147483647))))&&(decide (v_0.N<=2147483647))then
   some 0
  else
   none
def vi:IC:=
 (af [i1 1 (.dc 4 (.t 0)),mi 2 0] [1]
 (.seq (af [fa 3 2 1,ld 4 1 3,i1 5 (.bin .neq (.t 4) (.c (.str []))),mv 6 5,fg 7 6 false 3 1,lg 8 6 false 1 7,dq 9 6 false (.len 0 (.t 8)),kS 10 6 false .neq 9 0,po 11 6 10] [1,11]
 (.cond (.t 11) .dead
 .skip))
 (.seq (af [fa 12 0 1,ld 13 1 12,bn 14 .eql 13 2,mv 15 14,fg 16 15 true 1 1,lg 17 15 true 1 16,kS 18 15 true .geq 17 (-2147483647),pf 19 15 18,mv 20 19,fg 21 20 true 1 1,lg 22 20 true 1 21,kS 23 20 true .leq 22 2147483647,pf 24 20 23] [24]
 (.cond (.t 24) (af [mi 2 0] [2]
 .ret)
 .dead))
 .dead)))
theorem GA:aE prog 231 38 [⟨2,true,none⟩] vi=true:=by kernel_rfl
theorem Hz{v_0}{s:ab}{Q:List AV->ab->Prop}:ok (nL v_0) (fun r=>Q [.int .i64 r] s)->FN prog 231 [oV v_0] s Q:=by
 intro h
 refine FO GA rfl rfl ?_
 revert h
 rw[vi,nL]
 repeat'(first
  |simp -implicitDefEqProofs only[go_sem,seval])
theorem Hy{v_0}{s:ab}{r:Int}(h:nL v_0=some r):FE prog 231 [oV v_0] s [.int .i64 r] s:=Hz ⟨r,h,rfl,rfl⟩
def pT(n_0:Int)(qm:Int):Option (aw):=
 jn (
  iter (fun((n2,s3,k4):Int×aw×Int)=>
   if(decide (k4<20))&&((decide (n2>0))||(decide ((s3.b.length:Int)<qm)))then
    aG (0<=Int.tmod n2 10/\Int.tmod n2 10<=bj ((Int.tmod n2 10)+1)/\bj ((Int.tmod n2 10)+1)<=(aw.mk [48,49,50,51,52,53,54,55,56,57]).b.length)<|
    aG ((((aw.mk (part (aw.mk [48,49,50,51,52,53,54,55,56,57]).b (Int.tmod n2 10) (bj ((Int.tmod n2 10)+1)))).b.length+s3.b.length:Nat):Int)<=sH)<|
    some (.inl (bj (Int.tdiv n2 10),aw.mk ((aw.mk (part (aw.mk [48,49,50,51,52,53,54,55,56,57]).b (Int.tmod n2 10) (bj ((Int.tmod n2 10)+1)))).b++s3.b),bj (k4+1)))
   else
    some (.inr s3)) (n_0,(aw.mk []),0)) fun(s1:aw)=>
 some s1
def xY:IC:=
 (af [c6 4 (.str [])] [0,1]
 (af [c6 5 (.str [])] [0,1,5]
 (.join [(5,false)] (af [mi 6 0] [0,1,5,6]
 (.block 0 (.loop [(0,false),(1,false),(5,false),(6,false)] (.seq (af [mv 8 6,bn 9 .lss 8 20,mv 10 9,dh 11 0 10 true,kS 12 10 true .gtr 11 0,dh 13 12 10 true,dh 14 5 13 false,dq 15 13 false (.len 1 (.t 14)),dh 16 1 13 false,sY 17 13 false .lss 15 16,dq 18 10 true (.pick (.t 13) (.c (.bool true)) (.t 17)),pf 19 10 18] [0,1,5,6,19]
 (.cond (.t 19) .skip
 (.exit 0)))
 (.seq (.block 1 (af [mv 22 0,bn 23 .rem 22 10,mv 7 23] [0,1,5,6,7]
 (af [mv 24 7,mv 25 7,bn 26 .add 25 1,i1 27 (.qW (.c (.str [48,49,50,51,52,53,54,55,56,57])) (some (.t 24)) (some (.t 26))),mv 28 5,bt 29 .add 27 28,mv 5 29] [0,1,5,6]
 (.bN none [mv 30 0,bn 31 .quo 30 10,mv 0 31] [0,1,5,6]))))
 (.bN none [mv 20 6,bn 21 .add 20 1,mv 6 21] [0,1,5,6]))))))
 (af [mv 32 5,mv 4 32] [4]
 .ret))))
theorem Je:aE prog 232 33 [⟨4,true,none⟩] xY=true:=by kernel_rfl
theorem JJ{n_0 qm}{s:ab}{Q:List AV->ab->Prop}:ok (pT n_0 qm) (fun r=>Q [.str r.b] s)->FN prog 232 [.int .i64 n_0,.int .i64 qm] s Q:=by
 intro h
 refine FO Je rfl rfl ?_
 revert h
 rw[xY,pT]
 repeat'(first
  |((with_reducible refine bF (fun((n2,s3,k4):Int×aw×Int)=>⟨[(0,.int .i64 n2),(1,.int .i64 qm),(5,.str s3.b),(6,.int .i64 k4)],[],s⟩) ?_ ?_);(first|exact rfl|simp -implicitDefEqProofs only[go_sem,seval]);rintro J ⟨n2,s3,k4⟩)
  |((with_reducible refine dA (fun(s1:aw)=>⟨[(5,.str s1.b)],[],s⟩) (fun J=>?_) ?_);rotate_left;rintro s1)
  |simp -implicitDefEqProofs only[go_sem,seval])
theorem JI{n_0 qm}{s:ab}{r:aw}(h:pT n_0 qm=some r):FE prog 232 [.int .i64 n_0,.int .i64 qm] s [.str r.b] s:=JJ ⟨r,h,rfl,rfl⟩
def jl(v_0:aa):Option (aw×Int):=
 aW (nL v_0) fun r1=>
 if r1 !=0 then
  none
 else
  if decide (v_0.N<0)then
   none
  else
   if v_0.Kind==2 then
    aW (pT v_0.N 1) fun r2=>
    aG ((((aw.mk []).b.length+r2.b.length:Nat):Int)<=sH)<|
    some (aw.mk ((aw.mk []).b++r2.b),0)
   else
    none
def vj:IC:=
 (af [i1 1 (.dc 4 (.t 0)),c6 2 (.str []),mi 3 0] [1]
 (.seq (af [lm 8 4 1,c1 9 231 8,bn 10 .neq 9 0] [1,10]
 (.cond (.t 10) .dead
 .skip))
 (af [fa 11 1 1,ld 12 1 11,mv 4 12] [1,4]
 (af [c6 5 (.str [])] [1,4,5]
 (.seq (af [mv 13 4,bn 14 .lss 13 0] [1,4,5,14]
 (.cond (.t 14) .dead
 .skip))
 (.seq (af [fa 17 0 1,ld 18 1 17,bn 19 .eql 18 2] [4,5,19]
 (.cond (.t 19) (af [mv 20 5,mv 21 4,i1 22 (.call 232 [(.t 21),(.c (.int .i64 1))]),bt 23 .add 20 22,mv 2 23,mi 3 0] [2,3]
 .ret)
 .dead))
 .dead))))))
theorem GB:aE prog 190 52 [⟨2,true,none⟩,⟨3,true,none⟩] vj=true:=by kernel_rfl
theorem HA{v_0}{s:ab}{Q:List AV->ab->Prop}:ok (jl v_0) (fun r=>Q [.str r.1.b,.int .i64 r.2] s)->FN prog 190 [oV v_0] s Q:=by
 intro h
 refine FO GB rfl rfl ?_
 revert h
 rw[vj,jl]
 repeat'(first
  |(with_reducible first|exact cW|refine bK ?_ ?_|refine de ?_|refine ak (fun _(h:nL v_0=some _)=>Hy h) (fun r1=>?_)|refine ak (fun _(h:pT v_0.N 1=some _)=>JI h) (fun r2=>?_))
  |simp -implicitDefEqProofs only[go_sem,seval])
theorem wi{v_0}{s:ab}{r:aw×Int}(h:jl v_0=some r):FE prog 190 [oV v_0] s [.str r.1.b,.int .i64 r.2] s:=HA ⟨r,h,rfl,rfl⟩
def pU(s_0:aw):Option (Bool):=
 jn (
  aW (
   iter (fun(k2:Int)=>
    if decide (k2<(s_0.b.length:Int))then
     aG (0<=k2/\k2<s_0.b.length)<|
     if((ix s_0.b k2).toNat:Int)==0 then
      none
     else
      some (.inl (bj (k2+1)))
    else
     some (.inr ())) 0) fun(_:Unit)=>
  some ()) fun(_:Unit)=>
 some (decide ((s_0.b.length:Int)<=127))
def x7:IC:=
 (af [c6 2 (.bool false)] [0]
 (.join [(0,false)] (af [mi 3 0] [0,3]
 (.block 0 (.loop [(0,false),(3,false)] (.seq (af [mv 4 3,mv 5 0,le 6 1 5,bt 7 .lss 4 6] [0,3,7]
 (.cond (.t 7) .skip
 (.exit 0)))
 (.seq (.block 1 (af [mv 10 0,mv 11 3,i1 12 (.iK (.t 10) (.t 11)),bu 13 .eql 12 0] [0,3,13]
 (.cond (.t 13) .dead
 .skip)))
 (.bN none [mv 8 3,bn 9 .add 8 1,mv 3 9] [0,3]))))))
 (af [mv 14 0,le 15 1 14,bn 16 .leq 15 127,mv 2 16] [2]
 .ret)))
theorem Ji:aE prog 234 17 [⟨2,true,none⟩] x7=true:=by kernel_rfl
theorem JO{s_0}{s:ab}{Q:List AV->ab->Prop}:ok (pU s_0) (fun r=>Q [.bool r] s)->FN prog 234 [.str s_0.b] s Q:=by
 intro h
 refine FO Ji rfl rfl ?_
 revert h
 rw[x7,pU]
 repeat'(first
  |((with_reducible refine bF (fun(k2:Int)=>⟨[(0,.str s_0.b),(3,.int .i64 k2)],[],s⟩) ?_ ?_);(first|exact rfl|simp -implicitDefEqProofs only[go_sem,seval]);rintro J k2)
  |((with_reducible refine dA (fun(_:Unit)=>⟨[(0,.str s_0.b)],[],s⟩) (fun J=>?_) ?_);rotate_left;rintro _)
  |simp -implicitDefEqProofs only[go_sem,seval])
theorem JN{s_0}{s:ab}{r:Bool}(h:pU s_0=some r):FE prog 234 [.str s_0.b] s [.bool r] s:=JO ⟨r,h,rfl,rfl⟩
def nN(c_0:UInt8):Option (Bool):=
 jn (
  if(c_0.toNat:Int)==40 then
   some ((c_0.toNat:Int)==40)
  else
   if(c_0.toNat:Int)==41 then
    some ((c_0.toNat:Int)==41)
   else
    if(c_0.toNat:Int)==60 then
     some ((c_0.toNat:Int)==60)
    else
     if(c_0.toNat:Int)==62 then
      some ((c_0.toNat:Int)==62)
     else
      if(c_0.toNat:Int)==91 then
       some ((c_0.toNat:Int)==91)
      else
       if(c_0.toNat:Int)==93 then
        some ((c_0.toNat:Int)==93)
       else
        if(c_0.toNat:Int)==123 then
         some ((c_0.toNat:Int)==123)
        else
         if(c_0.toNat:Int)==125 then
          some ((c_0.toNat:Int)==125)
         else
          if(c_0.toNat:Int)==47 then
           some ((c_0.toNat:Int)==47)
          else
           some ((c_0.toNat:Int)==37)) fun(t1:Bool)=>
 if t1 then
  some true
 else
  some false
def vm:IC:=
 (af [c6 2 (.bool false)] [0]
 (.seq (af [mv 3 0] [3]
 (.block 0 (.join [(4,false)] (af [bu 5 .eql 3 40,mv 4 5] [3,4]
 (.cond (.t 4) .skip
 (af [bu 6 .eql 3 41,mv 4 6] [3,4]
 (.cond (.t 4) .skip
 (af [bu 7 .eql 3 60,mv 4 7] [3,4]
 (.cond (.t 4) .skip
 (af [bu 8 .eql 3 62,mv 4 8] [3,4]
 (.cond (.t 4) .skip
 (af [bu 9 .eql 3 91,mv 4 9] [3,4]
 (.cond (.t 4) .skip
 (af [bu 10 .eql 3 93,mv 4 10] [3,4]
 (.cond (.t 4) .skip
 (af [bu 11 .eql 3 123,mv 4 11] [3,4]
 (.cond (.t 4) .skip
 (af [bu 12 .eql 3 125,mv 4 12] [3,4]
 (.cond (.t 4) .skip
 (af [bu 13 .eql 3 47,mv 4 13] [3,4]
 (.cond (.t 4) .skip
 (.bN none [bu 14 .eql 3 37,mv 4 14] [4])))))))))))))))))))
 (.cond (.t 4) (af [c6 2 (.bool true)] [2]
 .ret)
 .skip))))
 (af [c6 2 (.bool false)] [2]
 .ret)))
theorem GC:aE prog 79 15 [⟨2,true,none⟩] vm=true:=by kernel_rfl
theorem HC{c_0}{s:ab}{Q:List AV->ab->Prop}:ok (nN c_0) (fun r=>Q [.bool r] s)->FN prog 79 [.int .u8 c_0.toNat] s Q:=by
 intro h
 refine FO GC rfl rfl ?_
 revert h
 rw[vm,nN]
 repeat'(first
  |((with_reducible refine dA (fun(t1:Bool)=>⟨[(4,.bool t1)],[],s⟩) (fun J=>?_) ?_);rotate_left;rintro t1)
  |simp -implicitDefEqProofs only[go_sem,seval])
theorem HB{c_0}{s:ab}{r:Bool}(h:nN c_0=some r):FE prog 79 [.int .u8 c_0.toNat] s [.bool r] s:=HC ⟨r,h,rfl,rfl⟩
def pV(s_0:aw):Option (aw×Int):=
 aW (pU s_0) fun r1=>
 if !r1 then
  none
 else
  jn (
   iter (fun((n5,k4):aw×Int)=>
    if decide (k4<(s_0.b.length:Int))then
     aG (0<=k4/\k4<s_0.b.length)<|
     aG ((decide (((ix s_0.b k4).toNat:Int)>32))=true->0<=k4/\k4<s_0.b.length)<|
     aG (((decide (((ix s_0.b k4).toNat:Int)>32))&&(decide (((ix s_0.b k4).toNat:Int)<127)))=true->0<=k4/\k4<s_0.b.length)<|
     aG ((((decide (((ix s_0.b k4).toNat:Int)>32))&&(decide (((ix s_0.b k4).toNat:Int)<127)))&&(((ix s_0.b k4).toNat:Int)!=35))=true->0<=k4/\k4<s_0.b.length)<|
     aW (l8 (((decide (((ix s_0.b k4).toNat:Int)>32))&&(decide (((ix s_0.b k4).toNat:Int)<127)))&&(((ix s_0.b k4).toNat:Int)!=35)) false (nN (ix s_0.b k4))) fun r6=>
     if(((decide (((ix s_0.b k4).toNat:Int)>32))&&(decide (((ix s_0.b k4).toNat:Int)<127)))&&(((ix s_0.b k4).toNat:Int)!=35))&&(!r6)then
      aG (0<=k4/\k4<=bj (k4+1)/\bj (k4+1)<=s_0.b.length)<|
      aG (((n5.b.length+(aw.mk (part s_0.b k4 (bj (k4+1)))).b.length:Nat):Int)<=sH)<|
      some (.inl (aw.mk (n5.b++(aw.mk (part s_0.b k4 (bj (k4+1)))).b),bj (k4+1)))
     else
      none
    else
     some (.inr n5)) ((aw.mk [47]),0)) fun(jA:aw)=>
  some (jA,0)
def yc:IC:=
 (af [c6 2 (.str []),mi 3 0] [0]
 (.seq (af [mv 6 0,c1 7 234 6,no 8 7] [0,8]
 (.cond (.t 8) .dead
 .skip))
 (af [c6 4 (.str [47])] [0,4]
 (.join [(4,false)] (af [mi 5 0] [0,4,5]
 (.block 0 (.loop [(0,false),(4,false),(5,false)] (.seq (af [mv 9 5,mv 10 0,le 11 1 10,bt 12 .lss 9 11] [0,4,5,12]
 (.cond (.t 12) .skip
 (.exit 0)))
 (.seq (.block 1 (.seq (.bN (some 21) [mv 15 0,mv 16 5,i1 17 (.iK (.t 15) (.t 16)),bu 18 .gtr 17 32,mv 19 18,dh 20 0 19 true,dh 21 5 19 true,dq 22 19 true (.iK (.t 20) (.t 21)),dq 23 19 true (.bin .lss (.t 22) (.c (.int .u8 127))),pf 24 19 23,mv 25 24,dh 26 0 25 true,dh 27 5 25 true,dq 28 25 true (.iK (.t 26) (.t 27)),dq 29 25 true (.bin .neq (.t 28) (.c (.int .u8 35))),pf 30 25 29,mv 31 30,dh 32 0 31 true,dh 33 5 31 true,dq 34 31 true (.iK (.t 32) (.t 33)),RX 35 31 true 79 34,dq 36 31 true (.un .not (.t 35)),pf 37 31 36] [0,4,5,37])
 (.cond (.t 37) (.bN none [mv 38 4,mv 39 0,mv 40 5,mv 41 5,bn 42 .add 41 1,i1 43 (.qW (.t 39) (some (.t 40)) (some (.t 42))),bt 44 .add 38 43,mv 4 44] [0,4,5])
 .dead)))
 (.bN none [mv 13 5,bn 14 .add 13 1,mv 5 14] [0,4,5]))))))
 (af [mv 52 4,mv 2 52,mi 3 0] [2,3]
 .ret)))))
theorem Jl:aE prog 192 53 [⟨2,true,none⟩,⟨3,true,none⟩] yc=true:=by kernel_rfl
theorem JT{s_0}{s:ab}{Q:List AV->ab->Prop}:ok (pV s_0) (fun r=>Q [.str r.1.b,.int .i64 r.2] s)->FN prog 192 [.str s_0.b] s Q:=by
 intro h
 refine FO Jl rfl rfl ?_
 revert h
 rw[yc,pV]
 repeat'(first
  |(with_reducible first|exact cW|refine bK ?_ ?_|refine de ?_|refine ak (fun _(h:pU s_0=some _)=>JN h) (fun r1=>?_)|refine fC rfl (fun _(h:nN (ix s_0.b k4)=some _)=>HB h) (fun _=>rfl) (fun r6=>?_))
  |((with_reducible refine bF (fun((n5,k4):aw×Int)=>⟨[(0,.str s_0.b),(4,.str n5.b),(5,.int .i64 k4)],[],s⟩) ?_ ?_);(first|exact rfl|simp -implicitDefEqProofs only[go_sem,seval]);rintro J ⟨n5,k4⟩)
  |((with_reducible refine dA (fun(jA:aw)=>⟨[(4,.str jA.b)],[],s⟩) (fun J=>?_) ?_);rotate_left;rintro jA)
  |simp -implicitDefEqProofs only[go_sem,seval])
theorem JS{s_0}{s:ab}{r:aw×Int}(h:pV s_0=some r):FE prog 192 [.str s_0.b] s [.str r.1.b,.int .i64 r.2] s:=JT ⟨r,h,rfl,rfl⟩
def fK:Nat->aa->Option (aw)
 |0,_=>none
 |fuel+1,v_0=>
  if v_0.Kind==0 then
   none
  else
   if v_0.Kind==1 then
    none
   else
    jn (
     if v_0.Kind==2 then
      some (v_0.Kind==2)
     else
      some (v_0.Kind==3)) fun(t3:Bool)=>
    if t3 then
     aW (jl v_0) fun r4=>
     some r4.1
    else
     if v_0.Kind==4 then
      none
     else
      if v_0.Kind==5 then
       aW (pV v_0.S) fun r5=>
       some r5.1
      else
       if v_0.Kind==8 then
        aW (jl (aa.mk 2 v_0.N (aw.mk []) ([]:List aa))) fun r6=>
        aG (((r6.1.b.length+(aw.mk [32,48,32,82]).b.length:Nat):Int)<=sH)<|
        some (aw.mk (r6.1.b++(aw.mk [32,48,32,82]).b))
       else
        jn (
         iter (fun((s9,k10):aw×Int)=>
          if decide (k10<(v_0.L.length:Int))then
           jn (
            if decide (k10>0)then
             aG (((s9.b.length+(aw.mk [32]).b.length:Nat):Int)<=sH)<|
             some (aw.mk (s9.b++(aw.mk [32]).b))
            else
             some s9) fun(s14:aw)=>
           aG (0<=k10/\k10<v_0.L.length)<|
           aW (fK fuel (ix v_0.L k10)) fun r16=>
           aG (((s14.b.length+r16.b.length:Nat):Int)<=sH)<|
           some (.inl (aw.mk (s14.b++r16.b),bj (k10+1)))
          else
           some (.inr s9)) ((aw.mk []),0)) fun(s8:aw)=>
        if v_0.Kind==6 then
         aG ((((aw.mk [91]).b.length+s8.b.length:Nat):Int)<=sH)<|
         aG ((((aw.mk ((aw.mk [91]).b++s8.b)).b.length+(aw.mk [93]).b.length:Nat):Int)<=sH)<|
         some (aw.mk ((aw.mk ((aw.mk [91]).b++s8.b)).b++(aw.mk [93]).b))
        else
         aG ((((aw.mk [60,60]).b.length+s8.b.length:Nat):Int)<=sH)<|
         aG ((((aw.mk ((aw.mk [60,60]).b++s8.b)).b.length+(aw.mk [62,62]).b.length:Nat):Int)<=sH)<|
         some (aw.mk ((aw.mk ((aw.mk [60,60]).b++s8.b)).b++(aw.mk [62,62]).b))
def yb:IC:=
 (af [i1 1 (.dc 4 (.t 0)),c6 2 (.str [])] [1]
 (.seq (af [fa 11 0 1,ld 12 1 11] [1,12]
 (.block 0 (af [bn 14 .eql 12 0,mv 13 14] [1,12,13]
 (.cond (.t 13) .dead
 (af [bn 16 .eql 12 1,mv 15 16] [1,12,15]
 (.cond (.t 15) .dead
 (.join [(1,false),(12,false),(20,false)] (af [bn 21 .eql 12 2,mv 20 21] [1,12,20]
 (.cond (.t 20) .skip
 (.bN none [bn 22 .eql 12 3,mv 20 22] [1,12,20])))
 (.cond (.t 20) (af [lm 24 4 1,c1 25 190 24,iV 23 25,ex 26 23 0,ex 27 23 1,mv 3 26,mv 4 27] [3]
 (af [mv 28 3,mv 2 28] [2]
 .ret))
 (af [bn 30 .eql 12 4,mv 29 30] [1,12,29]
 (.cond (.t 29) .dead
 (af [bn 35 .eql 12 5,mv 34 35] [1,12,34]
 (.cond (.t 34) (af [fa 37 2 1,ld 38 1 37,c1 39 192 38,iV 36 39,ex 40 36 0,ex 41 36 1,mv 5 40,mv 6 41] [5]
 (af [mv 42 5,mv 2 42] [2]
 .ret))
 (af [bn 44 .eql 12 8,mv 43 44] [1,43]
 (.cond (.t 43) (af [fa 46 1 1,ld 47 1 46,i1 48 (.build qT [(0,1,(.c (.int .i64 2))),(1,1,(.t 47))]),c1 49 190 48,iV 45 49,ex 50 45 0,ex 51 45 1,mv 7 50,mv 8 51] [7]
 (af [mv 52 7,i1 53 (.bin .add (.t 52) (.c (.str [32,48,32,82]))),mv 2 53] [2]
 .ret))
 .skip))))))))))))))
 (af [c6 9 (.str [])] [1,9]
 (.join [(1,false),(9,false)] (af [mi 10 0] [1,9,10]
 (.block 1 (.loop [(1,false),(9,false),(10,false)] (.seq (af [mv 54 10,fa 55 3 1,ld 56 1 55,le 57 0 56,bt 58 .lss 54 57] [1,9,10,58]
 (.cond (.t 58) .skip
 (.exit 1)))
 (.seq (.block 2 (.join [(1,false),(9,false),(10,false)] (af [mv 61 10,bn 62 .gtr 61 0] [1,9,10,62]
 (.cond (.t 62) (.bN none [mv 63 9,i1 64 (.bin .add (.t 63) (.c (.str [32]))),mv 9 64] [1,9,10])
 .skip))
 (.bN none [mv 65 9,fa 66 3 1,ld 67 1 66,mv 68 10,ia 69 qT 67 68,lm 70 4 69,c1 71 141 70,bt 72 .add 65 71,mv 9 72] [1,9,10])))
 (.bN none [mv 59 10,bn 60 .add 59 1,mv 10 60] [1,9,10]))))))
 (.seq (af [fa 73 0 1,ld 74 1 73,bn 75 .eql 74 6] [9,75]
 (.cond (.t 75) (af [mv 76 9,i1 77 (.bin .add (.c (.str [91])) (.t 76)),i1 78 (.bin .add (.t 77) (.c (.str [93]))),mv 2 78] [2]
 .ret)
 .skip))
 (af [mv 79 9,i1 80 (.bin .add (.c (.str [60,60])) (.t 79)),i1 81 (.bin .add (.t 80) (.c (.str [62,62]))),mv 2 81] [2]
 .ret))))))
theorem Jk:aE prog 141 82 [⟨2,true,none⟩] yb=true:=by kernel_rfl
theorem JR{fuel:Nat}:∀{v_0:aa}{s:ab}{Q:List AV->ab->Prop},ok (fK fuel v_0) (fun r=>Q [.str r.b] s)->FN prog 141 [oV v_0] s Q:=by
 induction fuel with
 |zero=>intros;rename_i h;rw[fK]at h;exact absurd h (by rw[ok_none];exact fun h=>h)
 |succ fuel ih=>
 have L6:∀{v_0:aa}{s:ab}{r:aw},fK fuel v_0=some r->FE prog 141 [oV v_0] s [.str r.b] s:=fun h=>ih ⟨_,h,rfl,rfl⟩
 intro v_0 s Q
 intro h
 refine FO Jk rfl rfl ?_
 revert h
 rw[yb,fK]
 repeat'(first
  |(with_reducible first|exact cW|refine bK ?_ ?_|refine de ?_|refine ak (fun _(h:jl v_0=some _)=>wi h) (fun r4=>?_)|refine ak (fun _(h:pV v_0.S=some _)=>JS h) (fun r5=>?_)|refine ak (fun _(h:jl (aa.mk 2 v_0.N (aw.mk []) ([]:List aa))=some _)=>(by refine jZ ?_ (wi h);simp -implicitDefEqProofs only[go_sem,seval])) (fun r6=>?_)|refine ak (fun _(h:fK fuel (ix v_0.L k10)=some _)=>L6 h) (fun r16=>?_))
  |((with_reducible refine dA (live:=[(1,false),(12,false),(20,false)]) (fun(t3:Bool)=>⟨[(1,.loc [.int .i64 v_0.Kind,.int .i64 v_0.N,.str v_0.S.b,sF 4 v_0.L]),(12,.int .i64 v_0.Kind),(20,.bool t3)],[],s⟩) (fun J=>?_) ?_);rotate_left;rintro t3)
  |((with_reducible refine dA (live:=[(1,false),(9,false),(10,false)]) (fun(s14:aw)=>⟨[(1,.loc [.int .i64 v_0.Kind,.int .i64 v_0.N,.str v_0.S.b,sF 4 v_0.L]),(9,.str s14.b),(10,.int .i64 k10)],[],s⟩) (fun J=>?_) ?_);rotate_left;rintro s14)
  |((with_reducible refine bF (fun((s9,k10):aw×Int)=>⟨[(1,.loc [.int .i64 v_0.Kind,.int .i64 v_0.N,.str v_0.S.b,sF 4 v_0.L]),(9,.str s9.b),(10,.int .i64 k10)],[],s⟩) ?_ ?_);(first|exact rfl|simp -implicitDefEqProofs only[go_sem,seval]);rintro J ⟨s9,k10⟩)
  |((with_reducible refine dA (live:=[(1,false),(9,false)]) (fun(s8:aw)=>⟨[(1,.loc [.int .i64 v_0.Kind,.int .i64 v_0.N,.str v_0.S.b,sF 4 v_0.L]),(9,.str s8.b)],[],s⟩) (fun J=>?_) ?_);rotate_left;rintro s8)
  |simp -implicitDefEqProofs only[go_sem,seval])
theorem yz{fuel:Nat}{v_0}{s:ab}{r:aw}(h:fK fuel v_0=some r):FE prog 141 [oV v_0] s [.str r.b] s:=JR ⟨r,h,rfl,rfl⟩
def ik(n_0:Int):Option (aw):=
 aW (fK lf (aa.mk 2 n_0 (aw.mk []) ([]:List aa))) fun r1=>
 some r1
def tM:IC:=
 (af [c6 2 (.str [])] [0]
 (af [mv 3 0,i1 4 (.build qT [(0,1,(.c (.int .i64 2))),(1,1,(.t 3))]),c1 5 141 4,mv 2 5] [2]
 .ret))
theorem DZ:aE prog 89 6 [⟨2,true,none⟩] tM=true:=by kernel_rfl
theorem Ef{n_0}{s:ab}{Q:List AV->ab->Prop}:ok (ik n_0) (fun r=>Q [.str r.b] s)->FN prog 89 [.int .i64 n_0] s Q:=by
 intro h
 refine FO DZ rfl rfl ?_
 revert h
 rw[tM,ik]
 repeat'(first
  |with_reducible refine ak (fun _(h:fK lf (aa.mk 2 n_0 (aw.mk []) ([]:List aa))=some _)=>(by refine jZ ?_ (yz h);simp -implicitDefEqProofs only[go_sem,seval])) (fun r1=>?_)
  |simp -implicitDefEqProofs only[go_sem,seval])
theorem tX{n_0}{s:ab}{r:aw}(h:ik n_0=some r):FE prog 89 [.int .i64 n_0] s [.str r.b] s:=Ef ⟨r,h,rfl,rfl⟩
def nO(n_0:Int)(o_1:ag):Option (aw):=
 aW (ik n_0) fun r1=>
 aG (((r1.b.length+(aw.mk [32,48,32,111,98,106,10]).b.length:Nat):Int)<=sH)<|
 if !o_1.Stream then
  aW (fK lf o_1.V) fun r2=>
  aG ((((aw.mk (r1.b++(aw.mk [32,48,32,111,98,106,10]).b)).b.length+r2.b.length:Nat):Int)<=sH)<|
  aG ((((aw.mk ((aw.mk (r1.b++(aw.mk [32,48,32,111,98,106,10]).b)).b++r2.b)).b.length+(aw.mk [10,101,110,100,111,98,106,10]).b.length:Nat):Int)<=sH)<|
  some (aw.mk ((aw.mk ((aw.mk (r1.b++(aw.mk [32,48,32,111,98,106,10]).b)).b++r2.b)).b++(aw.mk [10,101,110,100,111,98,106,10]).b))
 else
  none
def vp:IC:=
 (af [i1 3 (.dc 6 (.t 1)),c6 4 (.str [])] [0,3]
 (af [mv 7 0,c1 8 89 7,i1 9 (.bin .add (.t 8) (.c (.str [32,48,32,111,98,106,10]))),mv 5 9] [3,5]
 (.seq (af [fa 10 4 3,ld 11 1 10,no 12 11] [3,5,12]
 (.cond (.t 12) (af [mv 13 5,fa 14 0 3,lm 15 4 14,c1 16 141 15,bt 17 .add 13 16,i1 18 (.bin .add (.t 17) (.c (.str [10,101,110,100,111,98,106,10]))),mv 4 18] [4]
 .ret)
 .dead))
 .dead)))
theorem GF:aE prog 88 35 [⟨4,true,none⟩] vp=true:=by kernel_rfl
theorem HG{n_0 o_1}{s:ab}{Q:List AV->ab->Prop}:ok (nO n_0 o_1) (fun r=>Q [.str r.b] s)->FN prog 88 [.int .i64 n_0,.agg [.int .i64 o_1.V.Kind,.int .i64 o_1.V.N,.str o_1.V.S.b,sF 4 o_1.V.L,.bool o_1.Stream,.str o_1.Data.b]] s Q:=by
 intro h
 refine FO GF rfl rfl ?_
 revert h
 rw[vp,nO]
 repeat'(first
  |(with_reducible first|exact cW|refine bK ?_ ?_|refine de ?_|refine ak (fun _(h:ik n_0=some _)=>tX h) (fun r1=>?_)|refine ak (fun _(h:fK lf o_1.V=some _)=>yz h) (fun r2=>?_))
  |simp -implicitDefEqProofs only[go_sem,seval])
theorem HF{n_0 o_1}{s:ab}{r:aw}(h:nO n_0 o_1=some r):FE prog 88 [.int .i64 n_0,.agg [.int .i64 o_1.V.Kind,.int .i64 o_1.V.N,.str o_1.V.S.b,sF 4 o_1.V.L,.bool o_1.Stream,.str o_1.Data.b]] s [.str r.b] s:=HG ⟨r,h,rfl,rfl⟩
def mX(d_0:aH):Option ((List UInt8)):=
 jn (
  iter (fun((n5,k4):aw×Int)=>
   if decide (k4<(d_0.ae.length:Int))then
    aG (0<=k4/\k4<d_0.ae.length)<|
    aW (nO (bj (k4+1)) (ix d_0.ae k4)) fun r7=>
    aG (((n5.b.length+r7.b.length:Nat):Int)<=sH)<|
    some (.inl (aw.mk (n5.b++r7.b),bj (k4+1)))
   else
    some (.inr n5)) ((aw.mk [37,80,68,70,45,49,46,55,10]),0)) fun(jA:aw)=>
 aG (((jA.b.length+(aw.mk [116,114,97,105,108,101,114,10,60,60,47,82,111,111,116,32]).b.length:Nat):Int)<=sH)<|
 aW (ik d_0.cM) fun r8=>
 aG ((((aw.mk (jA.b++(aw.mk [116,114,97,105,108,101,114,10,60,60,47,82,111,111,116,32]).b)).b.length+r8.b.length:Nat):Int)<=sH)<|
 aG ((((aw.mk ((aw.mk (jA.b++(aw.mk [116,114,97,105,108,101,114,10,60,60,47,82,111,111,116,32]).b)).b++r8.b)).b.length+(aw.mk [32,48,32,82,62,62,10]).b.length:Nat):Int)<=sH)<|
 some ((aw.mk ((aw.mk ((aw.mk (jA.b++(aw.mk [116,114,97,105,108,101,114,10,60,60,47,82,111,111,116,32]).b)).b++r8.b)).b++(aw.mk [32,48,32,82,62,62,10]).b)).b)
def rF:IC:=
 (af [i1 1 (.dc 2 (.t 0)),i1 2 (.jL true (.c (.sl true 1 0 [])))] [1]
 (af [c6 3 (.str [37,80,68,70,45,49,46,55,10])] [1,3]
 (.join [(1,false),(3,false)] (af [mi 4 0] [1,3,4]
 (.block 0 (.loop [(1,false),(3,false),(4,false)] (.seq (af [mv 5 4,fa 6 0 1,ld 7 1 6,le 8 0 7,bt 9 .lss 5 8] [1,3,4,9]
 (.cond (.t 9) .skip
 (.exit 0)))
 (.seq (.block 1 (.bN none [mv 12 3,mv 13 4,bn 14 .add 13 1,fa 15 0 1,ld 16 1 15,mv 17 4,ia 18 Qu 16 17,lm 19 6 18,c2 20 88 14 19,bt 21 .add 12 20,mv 3 21] [1,3,4]))
 (.bN none [mv 10 4,bn 11 .add 10 1,mv 4 11] [1,3,4]))))))
 (af [mv 22 3,i1 23 (.bin .add (.t 22) (.c (.str [116,114,97,105,108,101,114,10,60,60,47,82,111,111,116,32]))),fa 24 1 1,ld 25 1 24,c1 26 89 25,bt 27 .add 23 26,i1 28 (.bin .add (.t 27) (.c (.str [32,48,32,82,62,62,10]))),i1 29 (.gD (.t 28)),mv 2 29] [2]
 .ret))))
theorem BZ:aE prog 44 30 [⟨2,true,none⟩] rF=true:=by kernel_rfl
theorem Ci{d_0}{s:ab}{Q:List AV->ab->Prop}:ok (mX d_0) (fun r=>Q [sF 1 r] s)->FN prog 44 [.agg [sF 6 d_0.ae,.int .i64 d_0.cM]] s Q:=by
 intro h
 refine FO BZ rfl rfl ?_
 revert h
 rw[rF,mX]
 repeat'(first
  |(with_reducible first|exact cW|refine bK ?_ ?_|refine de ?_|refine ak (fun _(h:nO (bj (k4+1)) (ix d_0.ae k4)=some _)=>HF h) (fun r7=>?_)|refine ak (fun _(h:ik d_0.cM=some _)=>tX h) (fun r8=>?_))
  |((with_reducible refine bF (fun((n5,k4):aw×Int)=>⟨[(1,.loc [sF 6 d_0.ae,.int .i64 d_0.cM]),(3,.str n5.b),(4,.int .i64 k4)],[],s⟩) ?_ ?_);(first|exact rfl|simp -implicitDefEqProofs only[go_sem,seval]);rintro J ⟨n5,k4⟩)
  |((with_reducible refine dA (fun(jA:aw)=>⟨[(1,.loc [sF 6 d_0.ae,.int .i64 d_0.cM]),(3,.str jA.b)],[],s⟩) (fun J=>?_) ?_);rotate_left;rintro jA)
  |simp -implicitDefEqProofs only[go_sem,seval])
theorem Cg{d_0}{s:ab}{r:(List UInt8)}(h:mX d_0=some r):FE prog 44 [.agg [sF 6 d_0.ae,.int .i64 d_0.cM]] s [sF 1 r] s:=Ci ⟨r,h,rfl,rfl⟩
def eU(n_0:Int):Option (aa):=some (aa.mk 8 n_0 (aw.mk []) ([]:List aa))
def vz:IC:=
 (af [i1 2 (.aq iA)] [0,2]
 (af [mv 3 0,i1 4 (.build iA [(0,1,(.c (.int .i64 8))),(1,1,(.t 3))]),st 4 2 4] [2]
 .ret))
theorem GM:aE prog 85 5 [⟨2,false,some (4,true)⟩] vz=true:=by kernel_rfl
theorem Ij{n_0}{s:ab}{Q:List AV->ab->Prop}:ok (eU n_0) (fun r=>Q [oV r] s)->FN prog 85 [.int .i64 n_0] s Q:=by
 intro h
 refine FO GM rfl rfl ?_
 revert h
 rw[vz,eU]
 repeat'(first
  |simp -implicitDefEqProofs only[go_sem,seval])
theorem lZ{n_0}{s:ab}{r:aa}(h:eU n_0=some r):FE prog 85 [.int .i64 n_0] s [oV r] s:=Ij ⟨r,h,rfl,rfl⟩
def js(n_0:Int):Option (aa):=some (aa.mk 2 n_0 (aw.mk []) ([]:List aa))
def vy:IC:=
 (af [i1 2 (.aq iA)] [0,2]
 (af [mv 3 0,i1 4 (.build iA [(0,1,(.c (.int .i64 2))),(1,1,(.t 3))]),st 4 2 4] [2]
 .ret))
theorem GL:aE prog 87 5 [⟨2,false,some (4,true)⟩] vy=true:=by kernel_rfl
theorem Ii{n_0}{s:ab}{Q:List AV->ab->Prop}:ok (js n_0) (fun r=>Q [oV r] s)->FN prog 87 [.int .i64 n_0] s Q:=by
 intro h
 refine FO GL rfl rfl ?_
 revert h
 rw[vy,js]
 repeat'(first
  |simp -implicitDefEqProofs only[go_sem,seval])
theorem wI{n_0}{s:ab}{r:aa}(h:js n_0=some r):FE prog 87 [.int .i64 n_0] s [oV r] s:=Ii ⟨r,h,rfl,rfl⟩
def ql:Option (aH):=
 aW (aY (aw.mk [84,121,112,101])) fun r1=>
 aW (aY (aw.mk [67,97,116,97,108,111,103])) fun r2=>
 aW (aY (aw.mk [80,97,103,101,115])) fun r3=>
 aW (eU 2) fun r4=>
 aW (cZ [r1,r2,r3,r4]) fun r5=>
 aW (aY (aw.mk [84,121,112,101])) fun r6=>
 aW (aY (aw.mk [80,97,103,101,115])) fun r7=>
 aW (aY (aw.mk [75,105,100,115])) fun r8=>
 aW (eU 4) fun r9=>
 aW (aY (aw.mk [67,111,117,110,116])) fun r10=>
 aW (js 1) fun r11=>
 aW (cZ [r6,r7,r8,(aa.mk 6 0 (aw.mk []) [r9]),r10,r11]) fun r12=>
 aW (aY (aw.mk [84,121,112,101])) fun r13=>
 aW (aY (aw.mk [80,97,103,101])) fun r14=>
 aW (aY (aw.mk [80,97,114,101,110,116])) fun r15=>
 aW (eU 2) fun r16=>
 aW (aY (aw.mk [65])) fun r17=>
 aW (eU 3) fun r18=>
 aW (cZ [r13,r14,r15,r16,r17,r18]) fun r19=>
 aW (js 7) fun r20=>
 some (aH.mk [(ag.mk r5 false (aw.mk [])),(ag.mk r12 false (aw.mk [])),(ag.mk r20 false (aw.mk [])),(ag.mk r19 false (aw.mk []))] 1)
theorem EW:(pz prog 84=true)=True:=eq_true (by kernel_rfl)
theorem EX:(pz prog 85=true)=True:=eq_true (by kernel_rfl)
def u6:IC:=
 (af [i1 0 (.aq [.sl true 6 0 [],.int .i64 0])] [0]
 (af [c6 1 (.fn 84 [] []),c6 2 (.fn 85 [] [])] [0,1,2]
 (af [mv 6 1,i1 7 (.cu (.t 6) [(.c (.str [84,121,112,101]))]),mv 8 1,i1 9 (.cu (.t 8) [(.c (.str [67,97,116,97,108,111,103]))]),mv 10 1,i1 11 (.cu (.t 10) [(.c (.str [80,97,103,101,115]))]),mv 12 2,i1 13 (.cu (.t 12) [(.c (.int .i64 2))]),i1 14 (.bq 4 4 [.int .i64 0,.int .i64 0,.str [],.sl true 4 0 [],.int .i64 0,.int .i64 0,.str [],.sl true 4 0 [],.int .i64 0,.int .i64 0,.str [],.sl true 4 0 [],.int .i64 0,.int .i64 0,.str [],.sl true 4 0 []] [(0,4,(.t 7)),(4,4,(.t 9)),(8,4,(.t 11)),(12,4,(.t 13))]),c1 15 86 14,i1 3 (.aq iA),st 4 3 15] [0,1,2,3]
 (af [mv 16 1,i1 17 (.cu (.t 16) [(.c (.str [84,121,112,101]))]),mv 18 1,i1 19 (.cu (.t 18) [(.c (.str [80,97,103,101,115]))]),mv 20 1,i1 21 (.cu (.t 20) [(.c (.str [75,105,100,115]))]),mv 22 2,i1 23 (.cu (.t 22) [(.c (.int .i64 4))]),i1 24 (.bq 4 1 iA [(0,4,(.t 23))]),i1 25 (.build iA [(0,1,(.c (.int .i64 6))),(3,1,(.t 24))]),mv 26 1,i1 27 (.cu (.t 26) [(.c (.str [67,111,117,110,116]))]),i1 28 (.call 87 [(.c (.int .i64 1))]),i1 29 (.bq 4 6 [.int .i64 0,.int .i64 0,.str [],.sl true 4 0 [],.int .i64 0,.int .i64 0,.str [],.sl true 4 0 [],.int .i64 0,.int .i64 0,.str [],.sl true 4 0 [],.int .i64 0,.int .i64 0,.str [],.sl true 4 0 [],.int .i64 0,.int .i64 0,.str [],.sl true 4 0 [],.int .i64 0,.int .i64 0,.str [],.sl true 4 0 []] [(0,4,(.t 17)),(4,4,(.t 19)),(8,4,(.t 21)),(12,4,(.t 25)),(16,4,(.t 27)),(20,4,(.t 28))]),c1 30 86 29,i1 4 (.aq iA),st 4 4 30] [0,1,2,3,4]
 (af [mv 31 1,i1 32 (.cu (.t 31) [(.c (.str [84,121,112,101]))]),mv 33 1,i1 34 (.cu (.t 33) [(.c (.str [80,97,103,101]))]),mv 35 1,i1 36 (.cu (.t 35) [(.c (.str [80,97,114,101,110,116]))]),mv 37 2,i1 38 (.cu (.t 37) [(.c (.int .i64 2))]),mv 39 1,i1 40 (.cu (.t 39) [(.c (.str [65]))]),mv 41 2,i1 42 (.cu (.t 41) [(.c (.int .i64 3))]),i1 43 (.bq 4 6 [.int .i64 0,.int .i64 0,.str [],.sl true 4 0 [],.int .i64 0,.int .i64 0,.str [],.sl true 4 0 [],.int .i64 0,.int .i64 0,.str [],.sl true 4 0 [],.int .i64 0,.int .i64 0,.str [],.sl true 4 0 [],.int .i64 0,.int .i64 0,.str [],.sl true 4 0 [],.int .i64 0,.int .i64 0,.str [],.sl true 4 0 []] [(0,4,(.t 32)),(4,4,(.t 34)),(8,4,(.t 36)),(12,4,(.t 38)),(16,4,(.t 40)),(20,4,(.t 42))]),c1 44 86 43,i1 5 (.aq iA),st 4 5 44] [0,3,4,5]
 (.seq (.bN (some 10) [lm 45 4 3,i1 46 (.build zz [(0,4,(.t 45))]),lm 47 4 4,i1 48 (.build zz [(0,4,(.t 47))]),i1 49 (.call 87 [(.c (.int .i64 7))]),i1 50 (.build zz [(0,4,(.t 49))]),lm 51 4 5,i1 52 (.build zz [(0,4,(.t 51))]),i1 53 (.bq 6 4 [.int .i64 0,.int .i64 0,.str [],.sl true 4 0 [],.bool false,.str [],.int .i64 0,.int .i64 0,.str [],.sl true 4 0 [],.bool false,.str [],.int .i64 0,.int .i64 0,.str [],.sl true 4 0 [],.bool false,.str [],.int .i64 0,.int .i64 0,.str [],.sl true 4 0 [],.bool false,.str []] [(0,6,(.t 46)),(6,6,(.t 48)),(12,6,(.t 50)),(18,6,(.t 52))]),i1 54 (.build [.sl true 6 0 [],.int .i64 0] [(0,1,(.t 53)),(1,1,(.c (.int .i64 1)))]),st 2 0 54] [0])
 .ret))))))
theorem Gs:aE prog 43 55 [⟨0,false,some (2,true)⟩] u6=true:=by kernel_rfl
theorem GU{s:ab}{Q:List AV->ab->Prop}:ok (ql) (fun r=>Q [.agg [sF 6 r.ae,.int .i64 r.cM]] s)->FN prog 43 [] s Q:=by
 intro h
 refine FO Gs rfl rfl ?_
 revert h
 rw[u6,ql]
 repeat'(first
  |((fail_if_success (have _x:=r1));with_reducible refine ak (fun _(h:aY (aw.mk [84,121,112,101])=some _)=>b8 h) (fun r1=>?_))
  |with_reducible refine ak (fun _(h:aY (aw.mk [67,97,116,97,108,111,103])=some _)=>b8 h) (fun r2=>?_)
  |((fail_if_success (have _x:=r3));with_reducible refine ak (fun _(h:aY (aw.mk [80,97,103,101,115])=some _)=>b8 h) (fun r3=>?_))
  |((fail_if_success (have _x:=r4));with_reducible refine ak (fun _(h:eU 2=some _)=>lZ h) (fun r4=>?_))
  |with_reducible refine ak (fun _(h:cZ [r1,r2,r3,r4]=some _)=>(by refine jZ ?_ (j9 h);simp -implicitDefEqProofs only[go_sem,seval,EW,EX])) (fun r5=>?_)
  |((fail_if_success (have _x:=r6));with_reducible refine ak (fun _(h:aY (aw.mk [84,121,112,101])=some _)=>b8 h) (fun r6=>?_))
  |((fail_if_success (have _x:=r7));with_reducible refine ak (fun _(h:aY (aw.mk [80,97,103,101,115])=some _)=>b8 h) (fun r7=>?_))
  |(with_reducible first|refine ak (fun _(h:aY (aw.mk [75,105,100,115])=some _)=>b8 h) (fun r8=>?_)|refine ak (fun _(h:eU 4=some _)=>lZ h) (fun r9=>?_)|refine ak (fun _(h:aY (aw.mk [67,111,117,110,116])=some _)=>b8 h) (fun r10=>?_)|refine ak (fun _(h:js 1=some _)=>wI h) (fun r11=>?_)|refine ak (fun _(h:cZ [r6,r7,r8,(aa.mk 6 0 (aw.mk []) [r9]),r10,r11]=some _)=>(by refine jZ ?_ (j9 h);simp -implicitDefEqProofs only[go_sem,seval,EW,EX])) (fun r12=>?_))
  |((fail_if_success (have _x:=r13));with_reducible refine ak (fun _(h:aY (aw.mk [84,121,112,101])=some _)=>b8 h) (fun r13=>?_))
  |(with_reducible first|refine ak (fun _(h:aY (aw.mk [80,97,103,101])=some _)=>b8 h) (fun r14=>?_)|refine ak (fun _(h:aY (aw.mk [80,97,114,101,110,116])=some _)=>b8 h) (fun r15=>?_))
  |((fail_if_success (have _x:=r16));with_reducible refine ak (fun _(h:eU 2=some _)=>lZ h) (fun r16=>?_))
  |(with_reducible first|refine ak (fun _(h:aY (aw.mk [65])=some _)=>b8 h) (fun r17=>?_)|refine ak (fun _(h:eU 3=some _)=>lZ h) (fun r18=>?_)|refine ak (fun _(h:cZ [r13,r14,r15,r16,r17,r18]=some _)=>(by refine jZ ?_ (j9 h);simp -implicitDefEqProofs only[go_sem,seval,EW,EX])) (fun r19=>?_)|refine b6 (fun _(h:js 7=some _)=>wI h) (fun _=>rfl) (fun r20=>?_))
  |simp -implicitDefEqProofs only[go_sem,seval,EW,EX])
theorem vN{s:ab}{r:aH}(h:ql=some r):FE prog 43 [] s [.agg [sF 6 r.ae,.int .i64 r.cM]] s:=GU ⟨r,h,rfl,rfl⟩
def xm(b_0:(List UInt8))(cN:Int):Option (Int×Bool):=
 aG (0<=cN/\cN<b_0.length)<|
 aG ((!(decide (((ix b_0 cN).toNat:Int)<48)))=true->0<=cN/\cN<b_0.length)<|
 if(decide (((ix b_0 cN).toNat:Int)<48))||(decide (((ix b_0 cN).toNat:Int)>57))then
  some (0,false)
 else
  aW (fq b_0 cN true) fun r1=>
  if((r1.2.2 !=0)||(decide (r1.1<1)))||(decide (r1.1>4096))then
   some (0,false)
  else
   aW (fq b_0 r1.2.1 true) fun r2=>
   if(r2.2.2 !=0)||(r2.1 !=0)then
    some (0,false)
   else
    aW (kz b_0 r2.2.1 true (aw.mk [111,98,106])) fun r3=>
    some (r1.1,r3.2==0)
def AK:IC:=
 (af [mi 4 0,c6 5 (.bool false)] [0,1]
 (.seq (af [mv 9 0,mv 10 1,ia 11 [.int .u8 0] 9 10,ld 12 1 11,bu 13 .lss 12 48,mv 14 13,dh 15 0 14 false,dh 16 1 14 false,dq 17 14 false (.indexAddr [.int .u8 0] (.t 15) (.t 16)),lg 18 14 false 1 17,dq 19 14 false (.bin .gtr (.t 18) (.c (.int .u8 57))),po 20 14 19] [0,1,20]
 (.cond (.t 20) (af [mi 4 0,c6 5 (.bool false)] [4,5]
 .ret)
 .skip))
 (af [mv 22 0,mv 23 1,i1 24 (.call 69 [(.t 22),(.t 23),(.c (.bool true))]),iV 21 24,ex 25 21 0,ex 26 21 1,ex 27 21 2,mv 6 25,mv 1 26,mv 7 27] [0,1,6,7]
 (.seq (af [mv 28 7,bn 29 .neq 28 0,mv 30 29,dh 31 6 30 false,kS 32 30 false .lss 31 1,po 33 30 32,mv 34 33,dh 35 6 34 false,kS 36 34 false .gtr 35 4096,po 37 34 36] [0,1,6,37]
 (.cond (.t 37) (af [mi 4 0,c6 5 (.bool false)] [4,5]
 .ret)
 .skip))
 (af [mv 39 0,mv 40 1,i1 41 (.call 69 [(.t 39),(.t 40),(.c (.bool true))]),iV 38 41,ex 42 38 0,ex 43 38 1,ex 44 38 2,mv 8 42,mv 1 43,mv 7 44] [0,1,6,7,8]
 (.seq (af [mv 45 7,bn 46 .neq 45 0,mv 47 46,dh 48 8 47 false,kS 49 47 false .neq 48 0,po 50 47 49] [0,1,6,50]
 (.cond (.t 50) (af [mi 4 0,c6 5 (.bool false)] [4,5]
 .ret)
 .skip))
 (af [mt 52 0,mv 53 1,i1 54 (.call 70 [(.t 52),(.t 53),(.c (.bool true)),(.c (.str [111,98,106]))]),iV 51 54,ex 55 51 0,ex 56 51 1,mv 7 56] [6,7]
 (af [mv 57 6,mv 58 7,bn 59 .eql 58 0,mv 4 57,mv 5 59] [4,5]
 .ret))))))))
theorem Ml:aE prog 32 60 [⟨4,true,none⟩,⟨5,true,none⟩] AK=true:=by kernel_rfl
theorem Nj{b_0 cN}{s:ab}{Q:List AV->ab->Prop}:ok (xm b_0 cN) (fun r=>Q [.int .i64 r.1,.bool r.2] s)->FN prog 32 [sF 1 b_0,.int .i64 cN] s Q:=by
 intro h
 refine FO Ml rfl rfl ?_
 revert h
 rw[AK,xm]
 repeat'(first
  |(with_reducible first|exact cW|refine bK ?_ ?_|refine de ?_|refine ak (fun _(h:fq b_0 cN true=some _)=>n9 h) (fun r1=>?_)|refine ak (fun _(h:fq b_0 r1.2.1 true=some _)=>n9 h) (fun r2=>?_)|refine ak (fun _(h:kz b_0 r2.2.1 true (aw.mk [111,98,106])=some _)=>yu h) (fun r3=>?_))
  |simp -implicitDefEqProofs only[go_sem,seval])
theorem Ni{b_0 cN}{s:ab}{r:Int×Bool}(h:xm b_0 cN=some r):FE prog 32 [sF 1 b_0,.int .i64 cN] s [.int .i64 r.1,.bool r.2] s:=Nj ⟨r,h,rfl,rfl⟩
def xr(e_0:Int):Option (Bool):=some (((e_0==0)||(e_0==6))||(e_0==25))
def AX:IC:=
 (af [c6 2 (.bool false)] [0]
 (af [mv 3 0,bn 4 .eql 3 0,mv 5 4,dh 6 0 5 false,kS 7 5 false .eql 6 6,po 8 5 7,mv 9 8,dh 10 0 9 false,kS 11 9 false .eql 10 25,po 12 9 11,mv 2 12] [2]
 .ret))
theorem Mw:aE prog 91 13 [⟨2,true,none⟩] AX=true:=by kernel_rfl
theorem NL{e_0}{s:ab}{Q:List AV->ab->Prop}:ok (xr e_0) (fun r=>Q [.bool r] s)->FN prog 91 [.int .i64 e_0] s Q:=by
 intro h
 refine FO Mw rfl rfl ?_
 revert h
 rw[AX,xr]
 repeat'(first
  |simp -implicitDefEqProofs only[go_sem,seval])
theorem NK{e_0}{s:ab}{r:Bool}(h:xr e_0=some r):FE prog 91 [.int .i64 e_0] s [.bool r] s:=NL ⟨r,h,rfl,rfl⟩
def nj(a_0:(List UInt8))(b_1:(List UInt8)):Option (Bool):=some ((aw.mk a_0).b==(aw.mk b_1).b)
def uY:IC:=
 (af [c6 4 (.bool false)] [0,1]
 (af [mt 5 0,i1 6 (.fo (.t 5)),mt 7 1,i1 8 (.fo (.t 7)),bt 9 .eql 6 8,mv 4 9] [4]
 .ret))
theorem Gp:aE prog 73 10 [⟨4,true,none⟩] uY=true:=by kernel_rfl
theorem Fy{a_0 b_1}{s:ab}{Q:List AV->ab->Prop}:ok (nj a_0 b_1) (fun r=>Q [.bool r] s)->FN prog 73 [sF 1 a_0,sF 1 b_1] s Q:=by
 intro h
 refine FO Gp rfl rfl ?_
 revert h
 rw[uY,nj]
 repeat'(first
  |simp -implicitDefEqProofs only[go_sem,seval])
theorem Fx{a_0 b_1}{s:ab}{r:Bool}(h:nj a_0 b_1=some r):FE prog 73 [sF 1 a_0,sF 1 b_1] s [.bool r] s:=Fy ⟨r,h,rfl,rfl⟩
def j4(s_0:(List UInt8))(prefix_1:(List UInt8)):Option (Bool):=
 aG ((decide ((s_0.length:Int)>=(prefix_1.length:Int)))=true->0<=(0:Int)/\0<=(prefix_1.length:Int)/\(prefix_1.length:Int)<=s_0.length)<|
 aW (l8 (decide ((s_0.length:Int)>=(prefix_1.length:Int))) false (nj (part s_0 0 (prefix_1.length:Int)) prefix_1)) fun r1=>
 some ((decide ((s_0.length:Int)>=(prefix_1.length:Int)))&&r1)
def pB:IC:=
 (af [c6 4 (.bool false)] [0,1]
 (.seq (.bN (some 12) [mv 5 0,le 6 0 5,mv 7 1,le 8 0 7,bt 9 .geq 6 8,mv 10 9,dh 11 0 10 true,dh 12 1 10 true,dq 13 10 true (.len 0 (.t 12)),dq 14 10 true (.slice 1 (.t 11) none (some (.t 13)) none),dh 15 1 10 true,qd2 16 10 true 73 14 15,pf 17 10 16,mv 4 17] [4])
 .ret))
theorem zb:aE prog 35 18 [⟨4,true,none⟩] pB=true:=by kernel_rfl
theorem yH{s_0 prefix_1}{s:ab}{Q:List AV->ab->Prop}:ok (j4 s_0 prefix_1) (fun r=>Q [.bool r] s)->FN prog 35 [sF 1 s_0,sF 1 prefix_1] s Q:=by
 intro h
 refine FO zb rfl rfl ?_
 revert h
 rw[pB,j4]
 repeat'(first
  |(with_reducible first|exact cW|refine bK ?_ ?_|refine fC rfl (fun _(h:nj (part s_0 0 (prefix_1.length:Int)) prefix_1=some _)=>Fx h) (fun _=>rfl) (fun r1=>?_))
  |simp -implicitDefEqProofs only[go_sem,seval])
theorem yG{s_0 prefix_1}{s:ab}{r:Bool}(h:j4 s_0 prefix_1=some r):FE prog 35 [sF 1 s_0,sF 1 prefix_1] s [.bool r] s:=yH ⟨r,h,rfl,rfl⟩
end Go.AB
end
