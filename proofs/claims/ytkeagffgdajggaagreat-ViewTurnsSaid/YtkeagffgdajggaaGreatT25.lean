/- A part of the proof: Vo0. -/
import Derived.Test.YtkeagffgdajggaaGreatT14
import Derived.Test.YtkeagffgdajggaaGreatT24
import Derived.Test.YtkeagffgdajggaaGreatT17
set_option linter.unusedSimpArgs false
set_option linter.unusedVariables false
section
set_option maxRecDepth 4000
namespace Go.AB
open Go
attribute[-go_sem] bU cN bw bT Nat.add_zero lf bC
structure A6 where
 At:Int
 Gen:Int
 Used:Bool
 deriving DecidableEq
instance:aH A6:=⟨3,fun x=>[.int .i64 x.At,.int .i64 x.Gen,.bool x.Used],(A6.mk 0 0 false),by decide,fun _=>rfl,fun _=>rfl⟩
structure A7 where
 abV:Int
 Entries:(List A6)
instance:aH A7:=⟨2,fun x=>[.int .i64 x.abV,.sl false 3 x.Entries.length (flat x.Entries)],(A7.mk 0 []),by decide,fun _=>rfl,fun _=>rfl⟩
structure A1 where
 SN:(List A7)
 Trailer:aa
instance:aH A1:=⟨5,fun x=>[.sl false 2 x.SN.length (flat x.SN),.int .i64 x.Trailer.Kind,.int .i64 x.Trailer.N,.str x.Trailer.S.b,.sl false 4 x.Trailer.L.length (flat x.Trailer.L)],(A1.mk [] (aa.mk 0 0 (aA.mk []) [])),by decide,fun _=>rfl,fun _=>rfl⟩
def wG(f_0:pK)(p_1:Int):Option (bF×Int×Int):=
 aP (qS f_0 p_1) fun r1=>
 if r1.2.2 !=0 then
  some ((bF.mk ([]:List ag) (aa.mk 0 0 (aA.mk []) ([]:List aa))),r1.2.1,r1.2.2)
 else
  aP (iV f_0 r1.1) fun r2=>
  if r2.2.2.2 !=0 then
   some ((bF.mk ([]:List ag) (aa.mk 0 0 (aA.mk []) ([]:List aa))),r2.2.2.1,r2.2.2.2)
  else
   aP (eL r2.1 r2.2.1 r1.1.ar) fun r3=>
   some (r3,0,0)
def E9:IC:=
 (ae [i1 4 (.aq [.sl true 6 0 [],.int .i64 0,.int .i64 0,.str [],.sl true 4 0 []]),mi 5 0,mi 6 0] [0,1,4]
 (ae [mv 13 0,mv 14 1,c2 15 46 13 14,iw 12 15,ex 16 12 0,ex 17 12 1,ex 18 12 2,i1 7 (.aq SK),st 6 7 16,mv 8 17,mv 9 18] [0,4,7,8,9]
 (.seq (ae [mv 19 9,bn 20 .neq 19 0] [0,4,7,8,9,20]
 (.cond (.t 20) (ae [i1 21 (.build [.sl true 6 0 [],.int .i64 0,.int .i64 0,.str [],.sl true 4 0 []] []),mv 22 8,mv 23 9,st 5 4 21,mv 5 22,mv 6 23] [4,5,6]
 .ret)
 .skip))
 (ae [mv 25 0,lm 26 6 7,c2 27 47 25 26,iw 24 27,ex 28 24 0,ex 29 24 1,ex 30 24 2,ex 31 24 3,mt 10 28,mt 11 29,mv 8 30,mv 9 31] [4,7,8,9,10,11]
 (.seq (ae [mv 32 9,bn 33 .neq 32 0] [4,7,8,9,10,11,33]
 (.cond (.t 33) (ae [i1 34 (.build [.sl true 6 0 [],.int .i64 0,.int .i64 0,.str [],.sl true 4 0 []] []),mv 35 8,mv 36 9,st 5 4 34,mv 5 35,mv 6 36] [4,5,6]
 .ret)
 .skip))
 (ae [mt 37 10,mt 38 11,fa 39 2 7,lm 40 4 39,c3 41 23 37 38 40,st 5 4 41,mi 5 0,mi 6 0] [4,5,6]
 .ret))))))
def C3:List ay:=[⟨4,false,some (5,true)⟩,⟨5,true,none⟩,⟨6,true,none⟩]
theorem PC:aC Go.Proofs.Tryz.prog 17 42 C3 E9=true:=by kernel_rfl
theorem Qj{f_0 p_1}{s:ab}{Q:List AV→ab→Prop}(va0:c6 s f_0):ok (wG f_0 p_1) (fun r=>Q [.agg [.sl false 6 r.1.an.length (flat r.1.an),.int .i64 r.1.ar.Kind,.int .i64 r.1.ar.N,.str r.1.ar.S.b,.sl false 4 r.1.ar.L.length (flat r.1.ar.L)],.int .i64 r.2.1,.int .i64 r.2.2] s)→FN Go.Proofs.Tryz.prog 17 [.ref f_0.B 0,.int .i64 p_1] s Q:=by
 intro h
 refine FN.of (af mix) PC rfl (Nat.le_of_ble_eq_true rfl) ?_
 revert h
 rw[E9,C3,wG]
 repeat'(first
  |with_reducible exact cF
  |with_reducible refine bj ?_ ?_
  |with_reducible refine cJ ?_
  |with_reducible refine ak (fun _(h:qS f_0 p_1=some _)=>L8 (c6.mono (by assumption) (by repeat'(first|exact Sub.refl _|refine Sub.set ?_ ?_|assumption|(simp[ab.set, *];done)))) h) (fun r1=>?_)
  |with_reducible refine ak (fun _(h:iV f_0 r1.1=some _)=>BV (c6.mono (by assumption) (by repeat'(first|exact Sub.refl _|refine Sub.set ?_ ?_|assumption|(simp[ab.set, *];done)))) h) (fun r2=>?_)
  |with_reducible refine ak (fun _(h:eL r2.1 r2.2.1 r1.1.ar=some _)=>qX h) (fun r3=>?_)
  |simp -implicitDefEqProofs only[go_sem,seval])
theorem G8{f_0 p_1}{s:ab}{r:bF×Int×Int}(va0:c6 s f_0)(h:wG f_0 p_1=some r):FE Go.Proofs.Tryz.prog 17 [.ref f_0.B 0,.int .i64 p_1] s [.agg [.sl false 6 r.1.an.length (flat r.1.an),.int .i64 r.1.ar.Kind,.int .i64 r.1.ar.N,.str r.1.ar.S.b,.sl false 4 r.1.ar.L.length (flat r.1.ar.L)],.int .i64 r.2.1,.int .i64 r.2.2] s:=Qj va0 ⟨r,h,rfl,rfl⟩
def b8(sep_0:(List UInt8)):Option (UInt32×UInt32):=
 jn (
  iter (fun((hash3,i4):UInt32×Int)=>
   if decide (i4≥0)then
    aK (0≤i4∧i4<sep_0.length)<|
    some (.inl (lA (((lA ((hash3.toNat:Int)*16777619)).toNat:Int)+((lA (((ix sep_0 i4).toNat:Int))).toNat:Int)),bz (i4 -1)))
   else
    some (.inr hash3)) (0,bz ((sep_0.length:Int) -1))) fun(hash2:UInt32)=>
 jn (
  iter (fun((pow9,sq10,i11):UInt32×UInt32×Int)=>
   if decide (i11>0)then
    jn (
     if(bz (abZ .i64 i11 1))!=0 then
      some (lA ((pow9.toNat:Int)*(sq10.toNat:Int)))
     else
      some pow9) fun(pow15:UInt32)=>
    some (.inl (pow15,lA ((sq10.toNat:Int)*(sq10.toNat:Int)),adU .i64 i11 1))
   else
    some (.inr pow9)) (1,16777619,(sep_0.length:Int))) fun(pow8:UInt32)=>
 some (hash2,pow8)
def eP:IC:=
 (ae [cV 2 (.int .u32 0),cV 3 (.int .u32 0)] [0]
 (ae [cV 4 (.int .u32 0)] [0,4]
 (.join [(0,true),(4,false)] (ae [mv 9 0,le 10 0 9,bn 11 .sub 10 1,mv 5 11] [0,4,5]
 (.block 0 (.loop [(0,true),(4,false),(5,false)] (.seq (ae [mv 12 5,bn 13 .geq 12 0] [0,4,5,13]
 (.cond (.t 13) .skip
 (.exit 0)))
 (.seq (.block 1 (.bD none [mv 16 4,i1 17 (.bin .mul (.t 16) (.c (.int .u32 16777619))),mv 18 0,mv 19 5,ia 20 [.int .u8 0] 18 19,ld 21 1 20,i1 22 (.mj .u32 (.t 21)),bt 23 .add 17 22,mv 4 23] [0,4,5]))
 (.bD none [mv 14 5,bn 15 .sub 14 1,mv 5 15] [0,4,5]))))))
 (ae [cV 6 (.int .u32 1),cV 7 (.int .u32 16777619)] [0,4,6,7]
 (.join [(4,false),(6,false)] (ae [mt 24 0,le 25 0 24,mv 8 25] [4,6,7,8]
 (.block 2 (.loop [(4,false),(6,false),(7,false),(8,false)] (.seq (ae [mv 26 8,bn 27 .gtr 26 0] [4,6,7,8,27]
 (.cond (.t 27) .skip
 (.exit 2)))
 (.seq (.block 3 (.join [(4,false),(6,false),(7,false),(8,false)] (ae [mv 30 8,bn 31 .and 30 1,bn 32 .neq 31 0] [4,6,7,8,32]
 (.cond (.t 32) (.bD none [mv 33 6,mv 34 7,bt 35 .mul 33 34,mv 6 35] [4,6,7,8])
 .skip))
 (.bD none [mv 36 7,mv 37 7,bt 38 .mul 36 37,mv 7 38] [4,6,7,8])))
 (.bD none [mv 28 8,i1 29 (.bin .shr (.t 28) (.c (.int .u64 1))),mv 8 29] [4,6,7,8]))))))
 (ae [mv 39 4,mv 40 6,mv 2 39,mv 3 40] [2,3]
 .ret))))))
def eK:List ay:=[⟨2,true,none⟩,⟨3,true,none⟩]
theorem jo:aC Go.Proofs.Tryz.prog 267 41 eK eP=true:=by kernel_rfl
theorem jm{sep_0}{s:ab}{Q:List AV→ab→Prop}:ok (b8 sep_0) (fun r=>Q [.int .u32 r.1.toNat,.int .u32 r.2.toNat] s)→FN Go.Proofs.Tryz.prog 267 [.sl false 1 sep_0.length (flat sep_0)] s Q:=by
 intro h
 refine FN.of (af mix) jo rfl (Nat.le_of_ble_eq_true rfl) ?_
 revert h
 rw[eP,eK,b8]
 repeat'(first
  |with_reducible exact cF
  |with_reducible refine bj ?_ ?_
  |with_reducible refine cJ ?_
  |((with_reducible refine bf (fun((hash3,i4):UInt32×Int)=>⟨[(0,.sl false 1 sep_0.length (flat sep_0)),(4,.int .u32 hash3.toNat),(5,.int .i64 i4)],[],s⟩) ?_ ?_);(first|exact rfl|simp -implicitDefEqProofs only[go_sem,seval]);rintro J ⟨hash3,i4⟩)
  |((with_reducible refine cH (live:=[(0,true),(4,false)]) (fun(hash2:UInt32)=>⟨[(0,.sl false 1 sep_0.length (flat sep_0)),(4,.int .u32 hash2.toNat)],[],s⟩) (fun J=>?_) ?_);rotate_left;rintro hash2)
  |((with_reducible refine cH (live:=[(4,false),(6,false),(7,false),(8,false)]) (fun(pow15:UInt32)=>⟨[(4,.int .u32 hash2.toNat),(6,.int .u32 pow15.toNat),(7,.int .u32 sq10.toNat),(8,.int .i64 i11)],[],s⟩) (fun J=>?_) ?_);rotate_left;rintro pow15)
  |((with_reducible refine bf (fun((pow9,sq10,i11):UInt32×UInt32×Int)=>⟨[(4,.int .u32 hash2.toNat),(6,.int .u32 pow9.toNat),(7,.int .u32 sq10.toNat),(8,.int .i64 i11)],[],s⟩) ?_ ?_);(first|exact rfl|simp -implicitDefEqProofs only[go_sem,seval]);rintro J ⟨pow9,sq10,i11⟩)
  |((with_reducible refine cH (live:=[(4,false),(6,false)]) (fun(pow8:UInt32)=>⟨[(4,.int .u32 hash2.toNat),(6,.int .u32 pow8.toNat)],[],s⟩) (fun J=>?_) ?_);rotate_left;rintro pow8)
  |simp -implicitDefEqProofs only[go_sem,seval])
theorem jl{sep_0}{s:ab}{r:UInt32×UInt32}(h:b8 sep_0=some r):FE Go.Proofs.Tryz.prog 267 [.sl false 1 sep_0.length (flat sep_0)] s [.int .u32 r.1.toNat,.int .u32 r.2.toNat] s:=jm ⟨r,h,rfl,rfl⟩
def bg(s_0:(List UInt8))(sep_1:(List UInt8)):Option (Int):=
 aP (b8 sep_1) fun r1=>
 jn (
  iter (fun((last9,h10,i11):Int×UInt32×Int)=>
   if decide (i11≥last9)then
    aK (0≤i11∧i11<s_0.length)<|
    some (.inl (last9,lA (((lA ((h10.toNat:Int)*16777619)).toNat:Int)+((lA (((ix s_0 i11).toNat:Int))).toNat:Int)),bz (i11 -1)))
   else
    some (.inr (last9,h10))) (bz ((s_0.length:Int) -(sep_1.length:Int)),0,bz ((s_0.length:Int) -1))) fun((last7,h8):Int×UInt32)=>
 aK (((h8.toNat:Int)==(r1.1.toNat:Int))=true→0≤last7∧last7≤(s_0.length:Int)∧(s_0.length:Int)≤s_0.length)<|
 if((h8.toNat:Int)==(r1.1.toNat:Int))&&((aA.mk (part s_0 last7 (s_0.length:Int))).b==(aA.mk sep_1).b)then
  none
 else
  jn (
   aP (
    iter (fun((h19,i20):UInt32×Int)=>
     if decide (i20≥0)then
      aK (0≤i20∧i20<s_0.length)<|
      aK (0≤bz (i20+(sep_1.length:Int))∧bz (i20+(sep_1.length:Int))<s_0.length)<|
      aK ((((lA (((lA (((lA ((h19.toNat:Int)*16777619)).toNat:Int)+((lA (((ix s_0 i20).toNat:Int))).toNat:Int))).toNat:Int) -((lA ((r1.2.toNat:Int)*((lA (((ix s_0 (bz (i20+(sep_1.length:Int)))).toNat:Int))).toNat:Int))).toNat:Int))).toNat:Int)==(r1.1.toNat:Int))=true→0≤i20∧i20≤bz (i20+(sep_1.length:Int))∧bz (i20+(sep_1.length:Int))≤s_0.length)<|
      if(((lA (((lA (((lA ((h19.toNat:Int)*16777619)).toNat:Int)+((lA (((ix s_0 i20).toNat:Int))).toNat:Int))).toNat:Int) -((lA ((r1.2.toNat:Int)*((lA (((ix s_0 (bz (i20+(sep_1.length:Int)))).toNat:Int))).toNat:Int))).toNat:Int))).toNat:Int)==(r1.1.toNat:Int))&&((aA.mk (part s_0 i20 (bz (i20+(sep_1.length:Int))))).b==(aA.mk sep_1).b)then
       none
      else
       some (.inl (lA (((lA (((lA ((h19.toNat:Int)*16777619)).toNat:Int)+((lA (((ix s_0 i20).toNat:Int))).toNat:Int))).toNat:Int) -((lA ((r1.2.toNat:Int)*((lA (((ix s_0 (bz (i20+(sep_1.length:Int)))).toNat:Int))).toNat:Int))).toNat:Int)),bz (i20 -1)))
     else
      some (.inr ())) (h8,bz (last7 -1))) fun(_:Unit)=>
   some ()) fun(_:Unit)=>
  some (-1)
def dy:IC:=
 (ae [mi 4 0] [0,1]
 (ae [mv 13 1,c1 14 267 13,iw 12 14,ex 15 12 0,ex 16 12 1,mv 5 15,mv 6 16] [0,1,5,6]
 (ae [mv 17 1,le 18 0 17,mv 7 18] [0,1,5,6,7]
 (ae [mv 19 0,le 20 0 19,mv 21 7,bt 22 .sub 20 21,mv 8 22] [0,1,5,6,7,8]
 (ae [cV 9 (.int .u32 0)] [0,1,5,6,7,8,9]
 (.join [(0,true),(1,true),(5,false),(6,false),(7,false),(8,false),(9,false)] (ae [mv 23 0,le 24 0 23,bn 25 .sub 24 1,mv 10 25] [0,1,5,6,7,8,9,10]
 (.block 0 (.loop [(0,true),(1,true),(5,false),(6,false),(7,false),(8,false),(9,false),(10,false)] (.seq (ae [mv 26 10,mv 27 8,bt 28 .geq 26 27] [0,1,5,6,7,8,9,10,28]
 (.cond (.t 28) .skip
 (.exit 0)))
 (.seq (.block 1 (.bD none [mv 31 9,i1 32 (.bin .mul (.t 31) (.c (.int .u32 16777619))),mv 33 0,mv 34 10,ia 35 [.int .u8 0] 33 34,ld 36 1 35,i1 37 (.mj .u32 (.t 36)),bt 38 .add 32 37,mv 9 38] [0,1,5,6,7,8,9,10]))
 (.bD none [mv 29 10,bn 30 .sub 29 1,mv 10 30] [0,1,5,6,7,8,9,10]))))))
 (.seq (.seq (.bD (some 12) [mv 39 9,mv 40 5,bt 41 .eql 39 40,mv 42 41,c9 43 0 42 true,c9 44 8 42 true,cS 45 42 true (.slice 1 (.t 43) (some (.t 44)) none none),cS 46 42 true (.eF (.t 45)),c9 47 1 42 true,cS 48 42 true (.eF (.t 47)),s6 49 42 true .eql 46 48,pf 50 42 49] [0,1,5,6,7,8,9,50])
 (.cond (.t 50) .dead
 .skip))
 (.join [] (ae [mv 52 8,bn 53 .sub 52 1,mv 11 53] [0,1,5,6,7,9,11]
 (.block 2 (.loop [(0,true),(1,true),(5,false),(6,false),(7,false),(9,false),(11,false)] (.seq (ae [mv 54 11,bn 55 .geq 54 0] [0,1,5,6,7,9,11,55]
 (.cond (.t 55) .skip
 (.exit 2)))
 (.seq (.block 3 (ae [mv 58 9,i1 59 (.bin .mul (.t 58) (.c (.int .u32 16777619))),mv 9 59] [0,1,5,6,7,9,11]
 (ae [mv 60 9,mv 61 0,mv 62 11,ia 63 [.int .u8 0] 61 62,ld 64 1 63,i1 65 (.mj .u32 (.t 64)),bt 66 .add 60 65,mv 9 66] [0,1,5,6,7,9,11]
 (ae [mv 67 9,mv 68 6,mv 69 0,mv 70 11,mv 71 7,bt 72 .add 70 71,ia 73 [.int .u8 0] 69 72,ld 74 1 73,i1 75 (.mj .u32 (.t 74)),bt 76 .mul 68 75,bt 77 .sub 67 76,mv 9 77] [0,1,5,6,7,9,11]
 (.seq (.bD (some 15) [mv 78 9,mv 79 5,bt 80 .eql 78 79,mv 81 80,c9 82 0 81 true,c9 83 11 81 true,c9 84 11 81 true,c9 85 7 81 true,s6 86 81 true .add 84 85,cS 87 81 true (.slice 1 (.t 82) (some (.t 83)) (some (.t 86)) none),cS 88 81 true (.eF (.t 87)),c9 89 1 81 true,cS 90 81 true (.eF (.t 89)),s6 91 81 true .eql 88 90,pf 92 81 91] [0,1,5,6,7,9,11,92])
 (.cond (.t 92) .dead
 .skip))))))
 (.bD none [mv 56 11,bn 57 .sub 56 1,mv 11 57] [0,1,5,6,7,9,11]))))))
 (ae [mi 4 (-1)] [4]
 .ret)))))))))
def dv:List ay:=[⟨4,true,none⟩]
theorem gq:aC Go.Proofs.Tryz.prog 236 94 dv dy=true:=by kernel_rfl
theorem gn{s_0 sep_1}{s:ab}{Q:List AV→ab→Prop}:ok (bg s_0 sep_1) (fun r=>Q [.int .i64 r] s)→FN Go.Proofs.Tryz.prog 236 [.sl false 1 s_0.length (flat s_0),.sl false 1 sep_1.length (flat sep_1)] s Q:=by
 intro h
 refine FN.of (af mix) gq rfl (Nat.le_of_ble_eq_true rfl) ?_
 revert h
 rw[dy,dv,bg]
 repeat'(first
  |with_reducible exact cF
  |with_reducible refine bj ?_ ?_
  |with_reducible refine cJ ?_
  |with_reducible refine ak (fun _(h:b8 sep_1=some _)=>jl h) (fun r1=>?_)
  |((with_reducible refine bf (fun((last9,h10,i11):Int×UInt32×Int)=>⟨[(0,.sl false 1 s_0.length (flat s_0)),(1,.sl false 1 sep_1.length (flat sep_1)),(5,.int .u32 r1.1.toNat),(6,.int .u32 r1.2.toNat),(7,.int .i64 (sep_1.length:Int)),(8,.int .i64 last9),(9,.int .u32 h10.toNat),(10,.int .i64 i11)],[],s⟩) ?_ ?_);(first|exact rfl|simp -implicitDefEqProofs only[go_sem,seval]);rintro J ⟨last9,h10,i11⟩)
  |((with_reducible refine cH (live:=[(0,true),(1,true),(5,false),(6,false),(7,false),(8,false),(9,false)]) (fun((last7,h8):Int×UInt32)=>⟨[(0,.sl false 1 s_0.length (flat s_0)),(1,.sl false 1 sep_1.length (flat sep_1)),(5,.int .u32 r1.1.toNat),(6,.int .u32 r1.2.toNat),(7,.int .i64 (sep_1.length:Int)),(8,.int .i64 last7),(9,.int .u32 h8.toNat)],[],s⟩) (fun J=>?_) ?_);rotate_left;rintro⟨last7,h8⟩)
  |((with_reducible refine bf (fun((h19,i20):UInt32×Int)=>⟨[(0,.sl false 1 s_0.length (flat s_0)),(1,.sl false 1 sep_1.length (flat sep_1)),(5,.int .u32 r1.1.toNat),(6,.int .u32 r1.2.toNat),(7,.int .i64 (sep_1.length:Int)),(9,.int .u32 h19.toNat),(11,.int .i64 i20)],[],s⟩) ?_ ?_);(first|exact rfl|simp -implicitDefEqProofs only[go_sem,seval]);rintro J ⟨h19,i20⟩)
  |((with_reducible refine cH (live:=[]) (fun(_:Unit)=>⟨[],[],s⟩) (fun J=>?_) ?_);rotate_left;rintro _)
  |simp -implicitDefEqProofs only[go_sem,seval])
theorem gm{s_0 sep_1}{s:ab}{r:Int}(h:bg s_0 sep_1=some r):FE Go.Proofs.Tryz.prog 236 [.sl false 1 s_0.length (flat s_0),.sl false 1 sep_1.length (flat sep_1)] s [.int .i64 r] s:=gn ⟨r,h,rfl,rfl⟩
def gD(s_0:(List UInt8))(sep_1:(List UInt8)):Option (Int):=
 if(sep_1.length:Int)==0 then
  none
 else
  if(sep_1.length:Int)==1 then
   none
  else
   if(sep_1.length:Int)==(s_0.length:Int)then
    none
   else
    if decide ((sep_1.length:Int)>(s_0.length:Int))then
     none
    else
     aP (bg s_0 sep_1) fun r1=>
     some r1
def nA:IC:=
 (ae [mi 4 0] [0,1]
 (ae [mv 6 1,le 7 0 6,mv 5 7] [0,1,5]
 (.seq (.block 0 (ae [mv 9 5,bn 10 .eql 9 0,mv 8 10] [0,1,5,8]
 (.cond (.t 8) .dead
 (ae [mv 14 5,bn 15 .eql 14 1,mv 13 15] [0,1,5,13]
 (.cond (.t 13) .dead
 (ae [mv 22 5,mv 23 0,le 24 0 23,bt 25 .eql 22 24,mv 21 25] [0,1,5,21]
 (.cond (.t 21) .dead
 (ae [mv 30 5,mv 31 0,le 32 0 31,bt 33 .gtr 30 32,mv 29 33] [0,1,29]
 (.cond (.t 29) .dead
 .skip)))))))))
 (ae [mt 34 0,mt 35 1,c2 36 236 34 35,mv 4 36] [4]
 .ret))))
def mE:List ay:=[⟨4,true,none⟩]
theorem yM:aC Go.Proofs.Tryz.prog 193 37 mE nA=true:=by kernel_rfl
theorem yy{s_0 sep_1}{s:ab}{Q:List AV→ab→Prop}:ok (gD s_0 sep_1) (fun r=>Q [.int .i64 r] s)→FN Go.Proofs.Tryz.prog 193 [.sl false 1 s_0.length (flat s_0),.sl false 1 sep_1.length (flat sep_1)] s Q:=by
 intro h
 refine FN.of (af mix) yM rfl (Nat.le_of_ble_eq_true rfl) ?_
 revert h
 rw[nA,mE,gD]
 repeat'(first
  |with_reducible exact cF
  |with_reducible refine bj ?_ ?_
  |with_reducible refine cJ ?_
  |with_reducible refine ak (fun _(h:bg s_0 sep_1=some _)=>gm h) (fun r1=>?_)
  |simp -implicitDefEqProofs only[go_sem,seval])
theorem yx{s_0 sep_1}{s:ab}{r:Int}(h:gD s_0 sep_1=some r):FE Go.Proofs.Tryz.prog 193 [.sl false 1 s_0.length (flat s_0),.sl false 1 sep_1.length (flat sep_1)] s [.int .i64 r] s:=yy ⟨r,h,rfl,rfl⟩
def lN(s_0:Hl):Option (Int×Int×Int):=
 aP (nq s_0) fun r1=>
 aP (pL s_0 (max 0 (bz (r1 -64))) 64) fun r2=>
 if !r2.2 then
  none
 else
  aP (gD r2.1 [115,116,97,114,116,120,114,101,102]) fun r3=>
  if decide (r3<0)then
   some (0,0,22)
  else
   none
def tL:IC:=
 (ae [mi 2 0,mi 3 0,mi 4 0] [0]
 (ae [mv 12 0,c1 13 62 12,bn 14 .sub 13 64,i1 15 (.eX true [(.c (.int .i64 0)),(.t 14)]),mv 5 15] [0,5]
 (ae [mv 17 0,mv 18 5,i1 19 (.call 61 [(.t 17),(.t 18),(.c (.int .i64 64))]),iw 16 19,ex 20 16 0,ex 21 16 1,mt 6 20,mv 7 21] [6,7]
 (.seq (ae [mv 22 7,no 23 22] [6,23]
 (.cond (.t 23) .dead
 .skip))
 (ae [mt 27 6,i1 28 (.aY 1 9 [.int .u8 0,.int .u8 0,.int .u8 0,.int .u8 0,.int .u8 0,.int .u8 0,.int .u8 0,.int .u8 0,.int .u8 0] [(0,1,(.c (.int .u8 115))),(1,1,(.c (.int .u8 116))),(2,1,(.c (.int .u8 97))),(3,1,(.c (.int .u8 114))),(4,1,(.c (.int .u8 116))),(5,1,(.c (.int .u8 120))),(6,1,(.c (.int .u8 114))),(7,1,(.c (.int .u8 101))),(8,1,(.c (.int .u8 102)))]),i1 29 (.jg (.t 28)),c2 30 193 27 29,mv 8 30] [8]
 (.seq (ae [mv 31 8,bn 32 .lss 31 0] [32]
 (.cond (.t 32) (ae [mi 2 0,mi 3 0,mi 4 22] [2,3,4]
 .ret)
 .dead))
 .dead))))))
def sx:List ay:=[⟨2,true,none⟩,⟨3,true,none⟩,⟨4,true,none⟩]
theorem Fj:aC Go.Proofs.Tryz.prog 143 54 sx tL=true:=by kernel_rfl
theorem EF{s_0}{s:ab}{Q:List AV→ab→Prop}(va0:gZ s s_0):ok (lN s_0) (fun r=>Q [.int .i64 r.1,.int .i64 r.2.1,.int .i64 r.2.2] s)→FN Go.Proofs.Tryz.prog 143 [.ref s_0.B 0] s Q:=by
 intro h
 refine FN.of (af mix) Fj rfl (Nat.le_of_ble_eq_true rfl) ?_
 revert h
 rw[tL,sx,lN]
 repeat'(first
  |with_reducible exact cF
  |with_reducible refine bj ?_ ?_
  |with_reducible refine cJ ?_
  |with_reducible refine ak (fun _(h:nq s_0=some _)=>wZ (gZ.mono (by assumption) (by repeat'(first|exact Sub.refl _|refine Sub.set ?_ ?_|assumption|(simp[ab.set, *];done)))) h) (fun r1=>?_)
  |with_reducible refine ak (fun _(h:pL s_0 (max 0 (bz (r1 -64))) 64=some _)=>zr (gZ.mono (by assumption) (by repeat'(first|exact Sub.refl _|refine Sub.set ?_ ?_|assumption|(simp[ab.set, *];done)))) h) (fun r2=>?_)
  |with_reducible refine ak (fun _(h:gD r2.1 [115,116,97,114,116,120,114,101,102]=some _)=>(by refine jV ?_ (yx h);simp -implicitDefEqProofs only[go_sem,seval])) (fun r3=>?_)
  |simp -implicitDefEqProofs only[go_sem,seval])
theorem EE{s_0}{s:ab}{r:Int×Int×Int}(va0:gZ s s_0)(h:lN s_0=some r):FE Go.Proofs.Tryz.prog 143 [.ref s_0.B 0] s [.int .i64 r.1,.int .i64 r.2.1,.int .i64 r.2.2] s:=EF va0 ⟨r,h,rfl,rfl⟩
def nt(s_0:Hl):Option (cj×Int×Int):=
 aP (lN s_0) fun r1=>
 if r1.2.2 !=0 then
  some ((cj.mk ([]:List Int) 0),r1.2.1,r1.2.2)
 else
  none
def xd:IC:=
 (ae [i1 2 (.aq [.sl true 1 0 [],.int .i64 0]),mi 3 0,mi 4 0] [0,2]
 (ae [mv 11 0,c1 12 143 11,iw 10 12,ex 13 10 0,ex 14 10 1,ex 15 10 2,mv 5 13,mv 6 14,mv 7 15] [2,6,7]
 (.seq (ae [mv 16 7,bn 17 .neq 16 0] [2,6,7,17]
 (.cond (.t 17) (ae [i1 18 (.build [.sl true 1 0 [],.int .i64 0] []),mv 19 6,mv 20 7,st 2 2 18,mv 3 19,mv 4 20] [2,3,4]
 .ret)
 .dead))
 .dead)))
def uW:List ay:=[⟨2,false,some (2,true)⟩,⟨3,true,none⟩,⟨4,true,none⟩]
theorem HE:aC Go.Proofs.Tryz.prog 90 40 uW xd=true:=by kernel_rfl
theorem Hq{s_0}{s:ab}{Q:List AV→ab→Prop}(va0:gZ s s_0):ok (nt s_0) (fun r=>Q [.agg [.sl false 1 r.1.dw.length (flat r.1.dw),.int .i64 r.1.jW],.int .i64 r.2.1,.int .i64 r.2.2] s)→FN Go.Proofs.Tryz.prog 90 [.ref s_0.B 0] s Q:=by
 intro h
 refine FN.of (af mix) HE rfl (Nat.le_of_ble_eq_true rfl) ?_
 revert h
 rw[xd,uW,nt]
 repeat'(first
  |with_reducible refine ak (fun _(h:lN s_0=some _)=>EE (gZ.mono (by assumption) (by repeat'(first|exact Sub.refl _|refine Sub.set ?_ ?_|assumption|(simp[ab.set, *];done)))) h) (fun r1=>?_)
  |simp -implicitDefEqProofs only[go_sem,seval])
theorem Ho{s_0}{s:ab}{r:cj×Int×Int}(va0:gZ s s_0)(h:nt s_0=some r):FE Go.Proofs.Tryz.prog 90 [.ref s_0.B 0] s [.agg [.sl false 1 r.1.dw.length (flat r.1.dw),.int .i64 r.1.jW],.int .i64 r.2.1,.int .i64 r.2.2] s:=Hq va0 ⟨r,h,rfl,rfl⟩
def l3(v_0:aa):Option (Int):=
 if(!(v_0.S.b==(aA.mk []).b))||((v_0.L.length:Int)!=0)then
  none
 else
  if((v_0.Kind==2)&&(decide (v_0.N≥(-2147483647))))&&(decide (v_0.N≤2147483647))then
   some 0
  else
   none
def tW:IC:=
 (ae [i1 1 (.cW 4 (.t 0)),mi 2 0] [1]
 (.seq (ae [fa 3 2 1,ld 4 1 3,i1 5 (.bin .neq (.t 4) (.c (.str []))),mv 6 5,fg 7 6 false 3 1,lg 8 6 false 1 7,cS 9 6 false (.len 0 (.t 8)),jx 10 6 false .neq 9 0,po 11 6 10] [1,11]
 (.cond (.t 11) .dead
 .skip))
 (.seq (ae [fa 12 0 1,ld 13 1 12,bn 14 .eql 13 2,mv 15 14,fg 16 15 true 1 1,lg 17 15 true 1 16,jx 18 15 true .geq 17 (-2147483647),pf 19 15 18,mv 20 19,fg 21 20 true 1 1,lg 22 20 true 1 21,jx 23 20 true .leq 22 2147483647,pf 24 20 23] [24]
 (.cond (.t 24) (ae [mi 2 0] [2]
 .ret)
 .dead))
 .dead)))
def sH:List ay:=[⟨2,true,none⟩]
theorem Fx:aC Go.Proofs.Tryz.prog 231 38 sH tW=true:=by kernel_rfl
theorem Gk{v_0}{s:ab}{Q:List AV→ab→Prop}:ok (l3 v_0) (fun r=>Q [.int .i64 r] s)→FN Go.Proofs.Tryz.prog 231 [.agg [.int .i64 v_0.Kind,.int .i64 v_0.N,.str v_0.S.b,.sl false 4 v_0.L.length (flat v_0.L)]] s Q:=by
 intro h
 refine FN.of (af mix) Fx rfl (Nat.le_of_ble_eq_true rfl) ?_
 revert h
 rw[tW,sH,l3]
 repeat'(first
  |simp -implicitDefEqProofs only[go_sem,seval])
theorem Gj{v_0}{s:ab}{r:Int}(h:l3 v_0=some r):FE Go.Proofs.Tryz.prog 231 [.agg [.int .i64 v_0.Kind,.int .i64 v_0.N,.str v_0.S.b,.sl false 4 v_0.L.length (flat v_0.L)]] s [.int .i64 r] s:=Gk ⟨r,h,rfl,rfl⟩
def nR(n_0:Int)(least_1:Int):Option (aA):=
 jn (
  iter (fun((n2,s3,k4):Int×aA×Int)=>
   if(decide (k4<20))&&((decide (n2>0))||(decide ((s3.b.length:Int)<least_1)))then
    aK (0≤Int.tmod n2 10∧Int.tmod n2 10≤bz ((Int.tmod n2 10)+1)∧bz ((Int.tmod n2 10)+1)≤(aA.mk [48,49,50,51,52,53,54,55,56,57]).b.length)<|
    aK ((((aA.mk (part (aA.mk [48,49,50,51,52,53,54,55,56,57]).b (Int.tmod n2 10) (bz ((Int.tmod n2 10)+1)))).b.length+s3.b.length:Nat):Int)≤rm)<|
    some (.inl (bz (Int.tdiv n2 10),aA.mk ((aA.mk (part (aA.mk [48,49,50,51,52,53,54,55,56,57]).b (Int.tmod n2 10) (bz ((Int.tmod n2 10)+1)))).b++s3.b),bz (k4+1)))
   else
    some (.inr s3)) (n_0,(aA.mk []),0)) fun(s1:aA)=>
 some s1
def xn:IC:=
 (ae [cV 4 (.str [])] [0,1]
 (ae [cV 5 (.str [])] [0,1,5]
 (.join [(5,false)] (ae [mi 6 0] [0,1,5,6]
 (.block 0 (.loop [(0,false),(1,false),(5,false),(6,false)] (.seq (ae [mv 8 6,bn 9 .lss 8 20,mv 10 9,c9 11 0 10 true,jx 12 10 true .gtr 11 0,c9 13 12 10 true,c9 14 5 13 false,cS 15 13 false (.len 1 (.t 14)),c9 16 1 13 false,s6 17 13 false .lss 15 16,cS 18 10 true (.pick (.t 13) (.c (.bool true)) (.t 17)),pf 19 10 18] [0,1,5,6,19]
 (.cond (.t 19) .skip
 (.exit 0)))
 (.seq (.block 1 (ae [mv 22 0,bn 23 .rem 22 10,mv 7 23] [0,1,5,6,7]
 (ae [mv 24 7,mv 25 7,bn 26 .add 25 1,i1 27 (.pC (.c (.str [48,49,50,51,52,53,54,55,56,57])) (some (.t 24)) (some (.t 26))),mv 28 5,bt 29 .add 27 28,mv 5 29] [0,1,5,6]
 (.bD none [mv 30 0,bn 31 .quo 30 10,mv 0 31] [0,1,5,6]))))
 (.bD none [mv 20 6,bn 21 .add 20 1,mv 6 21] [0,1,5,6]))))))
 (ae [mv 32 5,mv 4 32] [4]
 .ret))))
def vd:List ay:=[⟨4,true,none⟩]
theorem HM:aC Go.Proofs.Tryz.prog 232 33 vd xn=true:=by kernel_rfl
theorem Iv{n_0 least_1}{s:ab}{Q:List AV→ab→Prop}:ok (nR n_0 least_1) (fun r=>Q [.str r.b] s)→FN Go.Proofs.Tryz.prog 232 [.int .i64 n_0,.int .i64 least_1] s Q:=by
 intro h
 refine FN.of (af mix) HM rfl (Nat.le_of_ble_eq_true rfl) ?_
 revert h
 rw[xn,vd,nR]
 repeat'(first
  |((with_reducible refine bf (fun((n2,s3,k4):Int×aA×Int)=>⟨[(0,.int .i64 n2),(1,.int .i64 least_1),(5,.str s3.b),(6,.int .i64 k4)],[],s⟩) ?_ ?_);(first|exact rfl|simp -implicitDefEqProofs only[go_sem,seval]);rintro J ⟨n2,s3,k4⟩)
  |((with_reducible refine cH (fun(s1:aA)=>⟨[(5,.str s1.b)],[],s⟩) (fun J=>?_) ?_);rotate_left;rintro s1)
  |simp -implicitDefEqProofs only[go_sem,seval])
theorem Iu{n_0 least_1}{s:ab}{r:aA}(h:nR n_0 least_1=some r):FE Go.Proofs.Tryz.prog 232 [.int .i64 n_0,.int .i64 least_1] s [.str r.b] s:=Iv ⟨r,h,rfl,rfl⟩
def ij(v_0:aa):Option (aA×Int):=
 aP (l3 v_0) fun r1=>
 if r1 !=0 then
  none
 else
  if decide (v_0.N<0)then
   none
  else
   if v_0.Kind==2 then
    aP (nR v_0.N 1) fun r2=>
    aK ((((aA.mk []).b.length+r2.b.length:Nat):Int)≤rm)<|
    some (aA.mk ((aA.mk []).b++r2.b),0)
   else
    none
def tX:IC:=
 (ae [i1 1 (.cW 4 (.t 0)),cV 2 (.str []),mi 3 0] [1]
 (.seq (ae [lm 8 4 1,c1 9 231 8,bn 10 .neq 9 0] [1,10]
 (.cond (.t 10) .dead
 .skip))
 (ae [fa 11 1 1,ld 12 1 11,mv 4 12] [1,4]
 (ae [cV 5 (.str [])] [1,4,5]
 (.seq (ae [mv 13 4,bn 14 .lss 13 0] [1,4,5,14]
 (.cond (.t 14) .dead
 .skip))
 (.seq (ae [fa 17 0 1,ld 18 1 17,bn 19 .eql 18 2] [4,5,19]
 (.cond (.t 19) (ae [mv 20 5,mv 21 4,i1 22 (.call 232 [(.t 21),(.c (.int .i64 1))]),bt 23 .add 20 22,mv 2 23,mi 3 0] [2,3]
 .ret)
 .dead))
 .dead))))))
def sI:List ay:=[⟨2,true,none⟩,⟨3,true,none⟩]
theorem Fy:aC Go.Proofs.Tryz.prog 190 52 sI tX=true:=by kernel_rfl
theorem Gl{v_0}{s:ab}{Q:List AV→ab→Prop}:ok (ij v_0) (fun r=>Q [.str r.1.b,.int .i64 r.2] s)→FN Go.Proofs.Tryz.prog 190 [.agg [.int .i64 v_0.Kind,.int .i64 v_0.N,.str v_0.S.b,.sl false 4 v_0.L.length (flat v_0.L)]] s Q:=by
 intro h
 refine FN.of (af mix) Fy rfl (Nat.le_of_ble_eq_true rfl) ?_
 revert h
 rw[tX,sI,ij]
 repeat'(first
  |with_reducible exact cF
  |with_reducible refine bj ?_ ?_
  |with_reducible refine cJ ?_
  |with_reducible refine ak (fun _(h:l3 v_0=some _)=>Gj h) (fun r1=>?_)
  |with_reducible refine ak (fun _(h:nR v_0.N 1=some _)=>Iu h) (fun r2=>?_)
  |simp -implicitDefEqProofs only[go_sem,seval])
theorem uR{v_0}{s:ab}{r:aA×Int}(h:ij v_0=some r):FE Go.Proofs.Tryz.prog 190 [.agg [.int .i64 v_0.Kind,.int .i64 v_0.N,.str v_0.S.b,.sl false 4 v_0.L.length (flat v_0.L)]] s [.str r.1.b,.int .i64 r.2] s:=Gl ⟨r,h,rfl,rfl⟩
def nS(s_0:aA):Option (Bool):=
 jn (
  aP (
   iter (fun(k2:Int)=>
    if decide (k2<(s_0.b.length:Int))then
     aK (0≤k2∧k2<s_0.b.length)<|
     if((ix s_0.b k2).toNat:Int)==0 then
      none
     else
      some (.inl (bz (k2+1)))
    else
     some (.inr ())) 0) fun(_:Unit)=>
  some ()) fun(_:Unit)=>
 some (decide ((s_0.b.length:Int)≤127))
def xt:IC:=
 (ae [cV 2 (.bool false)] [0]
 (.join [(0,false)] (ae [mi 3 0] [0,3]
 (.block 0 (.loop [(0,false),(3,false)] (.seq (ae [mv 4 3,mv 5 0,le 6 1 5,bt 7 .lss 4 6] [0,3,7]
 (.cond (.t 7) .skip
 (.exit 0)))
 (.seq (.block 1 (ae [mv 10 0,mv 11 3,i1 12 (.gR (.t 10) (.t 11)),bu 13 .eql 12 0] [0,3,13]
 (.cond (.t 13) .dead
 .skip)))
 (.bD none [mv 8 3,bn 9 .add 8 1,mv 3 9] [0,3]))))))
 (ae [mv 14 0,le 15 1 14,bn 16 .leq 15 127,mv 2 16] [2]
 .ret)))
def vi:List ay:=[⟨2,true,none⟩]
theorem HQ:aC Go.Proofs.Tryz.prog 234 17 vi xt=true:=by kernel_rfl
theorem ID{s_0}{s:ab}{Q:List AV→ab→Prop}:ok (nS s_0) (fun r=>Q [.bool r] s)→FN Go.Proofs.Tryz.prog 234 [.str s_0.b] s Q:=by
 intro h
 refine FN.of (af mix) HQ rfl (Nat.le_of_ble_eq_true rfl) ?_
 revert h
 rw[xt,vi,nS]
 repeat'(first
  |((with_reducible refine bf (fun(k2:Int)=>⟨[(0,.str s_0.b),(3,.int .i64 k2)],[],s⟩) ?_ ?_);(first|exact rfl|simp -implicitDefEqProofs only[go_sem,seval]);rintro J k2)
  |((with_reducible refine cH (fun(_:Unit)=>⟨[(0,.str s_0.b)],[],s⟩) (fun J=>?_) ?_);rotate_left;rintro _)
  |simp -implicitDefEqProofs only[go_sem,seval])
theorem IB{s_0}{s:ab}{r:Bool}(h:nS s_0=some r):FE Go.Proofs.Tryz.prog 234 [.str s_0.b] s [.bool r] s:=ID ⟨r,h,rfl,rfl⟩
def l4(c_0:UInt8):Option (Bool):=
 jn (
  if(c_0.toNat:Int)==40 then
   some ((c_0.toNat:Int)==40)
  else
   if(c_0.toNat:Int)==41 then
    some ((c_0.toNat:Int)==41)
   else
    if(c_0.toNat:Int)==60 then
     some ((c_0.toNat:Int)==60)
    else
     if(c_0.toNat:Int)==62 then
      some ((c_0.toNat:Int)==62)
     else
      if(c_0.toNat:Int)==91 then
       some ((c_0.toNat:Int)==91)
      else
       if(c_0.toNat:Int)==93 then
        some ((c_0.toNat:Int)==93)
       else
        if(c_0.toNat:Int)==123 then
         some ((c_0.toNat:Int)==123)
        else
         if(c_0.toNat:Int)==125 then
          some ((c_0.toNat:Int)==125)
         else
          if(c_0.toNat:Int)==47 then
           some ((c_0.toNat:Int)==47)
          else
           some ((c_0.toNat:Int)==37)) fun(t1:Bool)=>
 if t1 then
  some true
 else
  some false
def tY:IC:=
 (ae [cV 2 (.bool false)] [0]
 (.seq (ae [mv 3 0] [3]
 (.block 0 (.join [(4,false)] (ae [bu 5 .eql 3 40,mv 4 5] [3,4]
 (.cond (.t 4) .skip
 (ae [bu 6 .eql 3 41,mv 4 6] [3,4]
 (.cond (.t 4) .skip
 (ae [bu 7 .eql 3 60,mv 4 7] [3,4]
 (.cond (.t 4) .skip
 (ae [bu 8 .eql 3 62,mv 4 8] [3,4]
 (.cond (.t 4) .skip
 (ae [bu 9 .eql 3 91,mv 4 9] [3,4]
 (.cond (.t 4) .skip
 (ae [bu 10 .eql 3 93,mv 4 10] [3,4]
 (.cond (.t 4) .skip
 (ae [bu 11 .eql 3 123,mv 4 11] [3,4]
 (.cond (.t 4) .skip
 (ae [bu 12 .eql 3 125,mv 4 12] [3,4]
 (.cond (.t 4) .skip
 (ae [bu 13 .eql 3 47,mv 4 13] [3,4]
 (.cond (.t 4) .skip
 (.bD none [bu 14 .eql 3 37,mv 4 14] [4])))))))))))))))))))
 (.cond (.t 4) (ae [cV 2 (.bool true)] [2]
 .ret)
 .skip))))
 (ae [cV 2 (.bool false)] [2]
 .ret)))
def sJ:List ay:=[⟨2,true,none⟩]
theorem Fz:aC Go.Proofs.Tryz.prog 79 15 sJ tY=true:=by kernel_rfl
theorem Gn{c_0}{s:ab}{Q:List AV→ab→Prop}:ok (l4 c_0) (fun r=>Q [.bool r] s)→FN Go.Proofs.Tryz.prog 79 [.int .u8 c_0.toNat] s Q:=by
 intro h
 refine FN.of (af mix) Fz rfl (Nat.le_of_ble_eq_true rfl) ?_
 revert h
 rw[tY,sJ,l4]
 repeat'(first
  |((with_reducible refine cH (fun(t1:Bool)=>⟨[(4,.bool t1)],[],s⟩) (fun J=>?_) ?_);rotate_left;rintro t1)
  |simp -implicitDefEqProofs only[go_sem,seval])
theorem Gm{c_0}{s:ab}{r:Bool}(h:l4 c_0=some r):FE Go.Proofs.Tryz.prog 79 [.int .u8 c_0.toNat] s [.bool r] s:=Gn ⟨r,h,rfl,rfl⟩
def nT(s_0:aA):Option (aA×Int):=
 aP (nS s_0) fun r1=>
 if !r1 then
  none
 else
  jn (
   iter (fun((out3,k4):aA×Int)=>
    if decide (k4<(s_0.b.length:Int))then
     aK (0≤k4∧k4<s_0.b.length)<|
     aK ((decide (((ix s_0.b k4).toNat:Int)>32))=true→0≤k4∧k4<s_0.b.length)<|
     aK (((decide (((ix s_0.b k4).toNat:Int)>32))&&(decide (((ix s_0.b k4).toNat:Int)<127)))=true→0≤k4∧k4<s_0.b.length)<|
     aK ((((decide (((ix s_0.b k4).toNat:Int)>32))&&(decide (((ix s_0.b k4).toNat:Int)<127)))&&(((ix s_0.b k4).toNat:Int)!=35))=true→0≤k4∧k4<s_0.b.length)<|
     aP (fY (((decide (((ix s_0.b k4).toNat:Int)>32))&&(decide (((ix s_0.b k4).toNat:Int)<127)))&&(((ix s_0.b k4).toNat:Int)!=35)) false (l4 (ix s_0.b k4))) fun r6=>
     if(((decide (((ix s_0.b k4).toNat:Int)>32))&&(decide (((ix s_0.b k4).toNat:Int)<127)))&&(((ix s_0.b k4).toNat:Int)!=35))&&(!r6)then
      aK (0≤k4∧k4≤bz (k4+1)∧bz (k4+1)≤s_0.b.length)<|
      aK (((out3.b.length+(aA.mk (part s_0.b k4 (bz (k4+1)))).b.length:Nat):Int)≤rm)<|
      some (.inl (aA.mk (out3.b++(aA.mk (part s_0.b k4 (bz (k4+1)))).b),bz (k4+1)))
     else
      none
    else
     some (.inr out3)) ((aA.mk [47]),0)) fun(out2:aA)=>
  some (out2,0)
def xw:IC:=
 (ae [cV 2 (.str []),mi 3 0] [0]
 (.seq (ae [mv 6 0,c1 7 234 6,no 8 7] [0,8]
 (.cond (.t 8) .dead
 .skip))
 (ae [cV 4 (.str [47])] [0,4]
 (.join [(4,false)] (ae [mi 5 0] [0,4,5]
 (.block 0 (.loop [(0,false),(4,false),(5,false)] (.seq (ae [mv 9 5,mv 10 0,le 11 1 10,bt 12 .lss 9 11] [0,4,5,12]
 (.cond (.t 12) .skip
 (.exit 0)))
 (.seq (.block 1 (.seq (.bD (some 21) [mv 15 0,mv 16 5,i1 17 (.gR (.t 15) (.t 16)),bu 18 .gtr 17 32,mv 19 18,c9 20 0 19 true,c9 21 5 19 true,cS 22 19 true (.gR (.t 20) (.t 21)),cS 23 19 true (.bin .lss (.t 22) (.c (.int .u8 127))),pf 24 19 23,mv 25 24,c9 26 0 25 true,c9 27 5 25 true,cS 28 25 true (.gR (.t 26) (.t 27)),cS 29 25 true (.bin .neq (.t 28) (.c (.int .u8 35))),pf 30 25 29,mv 31 30,c9 32 0 31 true,c9 33 5 31 true,cS 34 31 true (.gR (.t 32) (.t 33)),Qa 35 31 true 79 34,cS 36 31 true (.un .not (.t 35)),pf 37 31 36] [0,4,5,37])
 (.cond (.t 37) (.bD none [mv 38 4,mv 39 0,mv 40 5,mv 41 5,bn 42 .add 41 1,i1 43 (.pC (.t 39) (some (.t 40)) (some (.t 42))),bt 44 .add 38 43,mv 4 44] [0,4,5])
 .dead)))
 (.bD none [mv 13 5,bn 14 .add 13 1,mv 5 14] [0,4,5]))))))
 (ae [mv 52 4,mv 2 52,mi 3 0] [2,3]
 .ret)))))
def vm:List ay:=[⟨2,true,none⟩,⟨3,true,none⟩]
theorem HS:aC Go.Proofs.Tryz.prog 192 53 vm xw=true:=by kernel_rfl
theorem IH{s_0}{s:ab}{Q:List AV→ab→Prop}:ok (nT s_0) (fun r=>Q [.str r.1.b,.int .i64 r.2] s)→FN Go.Proofs.Tryz.prog 192 [.str s_0.b] s Q:=by
 intro h
 refine FN.of (af mix) HS rfl (Nat.le_of_ble_eq_true rfl) ?_
 revert h
 rw[xw,vm,nT]
 repeat'(first
  |with_reducible exact cF
  |with_reducible refine bj ?_ ?_
  |with_reducible refine cJ ?_
  |with_reducible refine ak (fun _(h:nS s_0=some _)=>IB h) (fun r1=>?_)
  |with_reducible refine dg rfl (fun _(h:l4 (ix s_0.b k4)=some _)=>Gm h) (fun _=>rfl) (fun r6=>?_)
  |((with_reducible refine bf (fun((out3,k4):aA×Int)=>⟨[(0,.str s_0.b),(4,.str out3.b),(5,.int .i64 k4)],[],s⟩) ?_ ?_);(first|exact rfl|simp -implicitDefEqProofs only[go_sem,seval]);rintro J ⟨out3,k4⟩)
  |((with_reducible refine cH (fun(out2:aA)=>⟨[(4,.str out2.b)],[],s⟩) (fun J=>?_) ?_);rotate_left;rintro out2)
  |simp -implicitDefEqProofs only[go_sem,seval])
theorem IG{s_0}{s:ab}{r:aA×Int}(h:nT s_0=some r):FE Go.Proofs.Tryz.prog 192 [.str s_0.b] s [.str r.1.b,.int .i64 r.2] s:=IH ⟨r,h,rfl,rfl⟩
def eR:Nat→aa→Option (aA)
 |0,_=>none
 |fuel+1,v_0=>
  if v_0.Kind==0 then
   none
  else
   if v_0.Kind==1 then
    none
   else
    jn (
     if v_0.Kind==2 then
      some (v_0.Kind==2)
     else
      some (v_0.Kind==3)) fun(t3:Bool)=>
    if t3 then
     aP (ij v_0) fun r4=>
     some r4.1
    else
     if v_0.Kind==4 then
      none
     else
      if v_0.Kind==5 then
       aP (nT v_0.S) fun r5=>
       some r5.1
      else
       if v_0.Kind==8 then
        aP (ij (aa.mk 2 v_0.N (aA.mk []) ([]:List aa))) fun r6=>
        aK (((r6.1.b.length+(aA.mk [32,48,32,82]).b.length:Nat):Int)≤rm)<|
        some (aA.mk (r6.1.b++(aA.mk [32,48,32,82]).b))
       else
        jn (
         iter (fun((s9,k10):aA×Int)=>
          if decide (k10<(v_0.L.length:Int))then
           jn (
            if decide (k10>0)then
             aK (((s9.b.length+(aA.mk [32]).b.length:Nat):Int)≤rm)<|
             some (aA.mk (s9.b++(aA.mk [32]).b))
            else
             some s9) fun(s14:aA)=>
           aK (0≤k10∧k10<v_0.L.length)<|
           aP (eR fuel (ix v_0.L k10)) fun r16=>
           aK (((s14.b.length+r16.b.length:Nat):Int)≤rm)<|
           some (.inl (aA.mk (s14.b++r16.b),bz (k10+1)))
          else
           some (.inr s9)) ((aA.mk []),0)) fun(s8:aA)=>
        if v_0.Kind==6 then
         aK ((((aA.mk [91]).b.length+s8.b.length:Nat):Int)≤rm)<|
         aK ((((aA.mk ((aA.mk [91]).b++s8.b)).b.length+(aA.mk [93]).b.length:Nat):Int)≤rm)<|
         some (aA.mk ((aA.mk ((aA.mk [91]).b++s8.b)).b++(aA.mk [93]).b))
        else
         aK ((((aA.mk [60,60]).b.length+s8.b.length:Nat):Int)≤rm)<|
         aK ((((aA.mk ((aA.mk [60,60]).b++s8.b)).b.length+(aA.mk [62,62]).b.length:Nat):Int)≤rm)<|
         some (aA.mk ((aA.mk ((aA.mk [60,60]).b++s8.b)).b++(aA.mk [62,62]).b))
def xu:IC:=
 (ae [i1 1 (.cW 4 (.t 0)),cV 2 (.str [])] [1]
 (.seq (ae [fa 11 0 1,ld 12 1 11] [1,12]
 (.block 0 (ae [bn 14 .eql 12 0,mv 13 14] [1,12,13]
 (.cond (.t 13) .dead
 (ae [bn 16 .eql 12 1,mv 15 16] [1,12,15]
 (.cond (.t 15) .dead
 (.join [(1,false),(12,false),(20,false)] (ae [bn 21 .eql 12 2,mv 20 21] [1,12,20]
 (.cond (.t 20) .skip
 (.bD none [bn 22 .eql 12 3,mv 20 22] [1,12,20])))
 (.cond (.t 20) (ae [lm 24 4 1,c1 25 190 24,iw 23 25,ex 26 23 0,ex 27 23 1,mv 3 26,mv 4 27] [3]
 (ae [mv 28 3,mv 2 28] [2]
 .ret))
 (ae [bn 30 .eql 12 4,mv 29 30] [1,12,29]
 (.cond (.t 29) .dead
 (ae [bn 35 .eql 12 5,mv 34 35] [1,12,34]
 (.cond (.t 34) (ae [fa 37 2 1,ld 38 1 37,c1 39 192 38,iw 36 39,ex 40 36 0,ex 41 36 1,mv 5 40,mv 6 41] [5]
 (ae [mv 42 5,mv 2 42] [2]
 .ret))
 (ae [bn 44 .eql 12 8,mv 43 44] [1,43]
 (.cond (.t 43) (ae [fa 46 1 1,ld 47 1 46,i1 48 (.build oG [(0,1,(.c (.int .i64 2))),(1,1,(.t 47))]),c1 49 190 48,iw 45 49,ex 50 45 0,ex 51 45 1,mv 7 50,mv 8 51] [7]
 (ae [mv 52 7,i1 53 (.bin .add (.t 52) (.c (.str [32,48,32,82]))),mv 2 53] [2]
 .ret))
 .skip))))))))))))))
 (ae [cV 9 (.str [])] [1,9]
 (.join [(1,false),(9,false)] (ae [mi 10 0] [1,9,10]
 (.block 1 (.loop [(1,false),(9,false),(10,false)] (.seq (ae [mv 54 10,fa 55 3 1,ld 56 1 55,le 57 0 56,bt 58 .lss 54 57] [1,9,10,58]
 (.cond (.t 58) .skip
 (.exit 1)))
 (.seq (.block 2 (.join [(1,false),(9,false),(10,false)] (ae [mv 61 10,bn 62 .gtr 61 0] [1,9,10,62]
 (.cond (.t 62) (.bD none [mv 63 9,i1 64 (.bin .add (.t 63) (.c (.str [32]))),mv 9 64] [1,9,10])
 .skip))
 (.bD none [mv 65 9,fa 66 3 1,ld 67 1 66,mv 68 10,ia 69 oG 67 68,lm 70 4 69,c1 71 141 70,bt 72 .add 65 71,mv 9 72] [1,9,10])))
 (.bD none [mv 59 10,bn 60 .add 59 1,mv 10 60] [1,9,10]))))))
 (.seq (ae [fa 73 0 1,ld 74 1 73,bn 75 .eql 74 6] [9,75]
 (.cond (.t 75) (ae [mv 76 9,i1 77 (.bin .add (.c (.str [91])) (.t 76)),i1 78 (.bin .add (.t 77) (.c (.str [93]))),mv 2 78] [2]
 .ret)
 .skip))
 (ae [mv 79 9,i1 80 (.bin .add (.c (.str [60,60])) (.t 79)),i1 81 (.bin .add (.t 80) (.c (.str [62,62]))),mv 2 81] [2]
 .ret))))))
def vj:List ay:=[⟨2,true,none⟩]
theorem HR:aC Go.Proofs.Tryz.prog 141 82 vj xu=true:=by kernel_rfl
theorem IE{fuel:Nat}:∀{v_0:aa}{s:ab}{Q:List AV→ab→Prop},ok (eR fuel v_0) (fun r=>Q [.str r.b] s)→FN Go.Proofs.Tryz.prog 141 [.agg [.int .i64 v_0.Kind,.int .i64 v_0.N,.str v_0.S.b,.sl false 4 v_0.L.length (flat v_0.L)]] s Q:=by
 induction fuel with
 |zero=>intros;rename_i h;rw[eR]at h;exact absurd h (by rw[ok_none];exact fun h=>h)
 |succ fuel ih=>
 have ihfe:∀{v_0:aa}{s:ab}{r:aA},eR fuel v_0=some r→FE Go.Proofs.Tryz.prog 141 [.agg [.int .i64 v_0.Kind,.int .i64 v_0.N,.str v_0.S.b,.sl false 4 v_0.L.length (flat v_0.L)]] s [.str r.b] s:=fun h=>ih ⟨_,h,rfl,rfl⟩
 intro v_0 s Q
 intro h
 refine FN.of (af mix) HR rfl (Nat.le_of_ble_eq_true rfl) ?_
 revert h
 rw[xu,vj,eR]
 repeat'(first
  |with_reducible exact cF
  |with_reducible refine bj ?_ ?_
  |with_reducible refine cJ ?_
  |with_reducible refine ak (fun _(h:ij v_0=some _)=>uR h) (fun r4=>?_)
  |with_reducible refine ak (fun _(h:nT v_0.S=some _)=>IG h) (fun r5=>?_)
  |with_reducible refine ak (fun _(h:ij (aa.mk 2 v_0.N (aA.mk []) ([]:List aa))=some _)=>(by refine jV ?_ (uR h);simp -implicitDefEqProofs only[go_sem,seval])) (fun r6=>?_)
  |with_reducible refine ak (fun _(h:eR fuel (ix v_0.L k10)=some _)=>ihfe h) (fun r16=>?_)
  |((with_reducible refine cH (live:=[(1,false),(12,false),(20,false)]) (fun(t3:Bool)=>⟨[(1,.loc [.int .i64 v_0.Kind,.int .i64 v_0.N,.str v_0.S.b,.sl false 4 v_0.L.length (flat v_0.L)]),(12,.int .i64 v_0.Kind),(20,.bool t3)],[],s⟩) (fun J=>?_) ?_);rotate_left;rintro t3)
  |((with_reducible refine cH (live:=[(1,false),(9,false),(10,false)]) (fun(s14:aA)=>⟨[(1,.loc [.int .i64 v_0.Kind,.int .i64 v_0.N,.str v_0.S.b,.sl false 4 v_0.L.length (flat v_0.L)]),(9,.str s14.b),(10,.int .i64 k10)],[],s⟩) (fun J=>?_) ?_);rotate_left;rintro s14)
  |((with_reducible refine bf (fun((s9,k10):aA×Int)=>⟨[(1,.loc [.int .i64 v_0.Kind,.int .i64 v_0.N,.str v_0.S.b,.sl false 4 v_0.L.length (flat v_0.L)]),(9,.str s9.b),(10,.int .i64 k10)],[],s⟩) ?_ ?_);(first|exact rfl|simp -implicitDefEqProofs only[go_sem,seval]);rintro J ⟨s9,k10⟩)
  |((with_reducible refine cH (live:=[(1,false),(9,false)]) (fun(s8:aA)=>⟨[(1,.loc [.int .i64 v_0.Kind,.int .i64 v_0.N,.str v_0.S.b,.sl false 4 v_0.L.length (flat v_0.L)]),(9,.str s8.b)],[],s⟩) (fun J=>?_) ?_);rotate_left;rintro s8)
  |simp -implicitDefEqProofs only[go_sem,seval])
theorem xP{fuel:Nat}{v_0}{s:ab}{r:aA}(h:eR fuel v_0=some r):FE Go.Proofs.Tryz.prog 141 [.agg [.int .i64 v_0.Kind,.int .i64 v_0.N,.str v_0.S.b,.sl false 4 v_0.L.length (flat v_0.L)]] s [.str r.b] s:=IE ⟨r,h,rfl,rfl⟩
def gw(n_0:Int):Option (aA):=
 aP (eR iB (aa.mk 2 n_0 (aA.mk []) ([]:List aa))) fun r1=>
 some r1
def se:IC:=
 (ae [cV 2 (.str [])] [0]
 (ae [mv 3 0,i1 4 (.build oG [(0,1,(.c (.int .i64 2))),(1,1,(.t 3))]),c1 5 141 4,mv 2 5] [2]
 .ret))
def qG:List ay:=[⟨2,true,none⟩]
theorem Ds:aC Go.Proofs.Tryz.prog 89 6 qG se=true:=by kernel_rfl
theorem DJ{n_0}{s:ab}{Q:List AV→ab→Prop}:ok (gw n_0) (fun r=>Q [.str r.b] s)→FN Go.Proofs.Tryz.prog 89 [.int .i64 n_0] s Q:=by
 intro h
 refine FN.of (af mix) Ds rfl (Nat.le_of_ble_eq_true rfl) ?_
 revert h
 rw[se,qG,gw]
 repeat'(first
  |with_reducible refine ak (fun _(h:eR iB (aa.mk 2 n_0 (aA.mk []) ([]:List aa))=some _)=>(by refine jV ?_ (xP h);simp -implicitDefEqProofs only[go_sem,seval])) (fun r1=>?_)
  |simp -implicitDefEqProofs only[go_sem,seval])
theorem sr{n_0}{s:ab}{r:aA}(h:gw n_0=some r):FE Go.Proofs.Tryz.prog 89 [.int .i64 n_0] s [.str r.b] s:=DJ ⟨r,h,rfl,rfl⟩
def l5(n_0:Int)(o_1:ag):Option (aA):=
 aP (gw n_0) fun r1=>
 aK (((r1.b.length+(aA.mk [32,48,32,111,98,106,10]).b.length:Nat):Int)≤rm)<|
 if !o_1.Stream then
  aP (eR iB o_1.V) fun r2=>
  aK ((((aA.mk (r1.b++(aA.mk [32,48,32,111,98,106,10]).b)).b.length+r2.b.length:Nat):Int)≤rm)<|
  aK ((((aA.mk ((aA.mk (r1.b++(aA.mk [32,48,32,111,98,106,10]).b)).b++r2.b)).b.length+(aA.mk [10,101,110,100,111,98,106,10]).b.length:Nat):Int)≤rm)<|
  some (aA.mk ((aA.mk ((aA.mk (r1.b++(aA.mk [32,48,32,111,98,106,10]).b)).b++r2.b)).b++(aA.mk [10,101,110,100,111,98,106,10]).b))
 else
  none
def tZ:IC:=
 (ae [i1 3 (.cW 6 (.t 1)),cV 4 (.str [])] [0,3]
 (ae [mv 7 0,c1 8 89 7,i1 9 (.bin .add (.t 8) (.c (.str [32,48,32,111,98,106,10]))),mv 5 9] [3,5]
 (.seq (ae [fa 10 4 3,ld 11 1 10,no 12 11] [3,5,12]
 (.cond (.t 12) (ae [mv 13 5,fa 14 0 3,lm 15 4 14,c1 16 141 15,bt 17 .add 13 16,i1 18 (.bin .add (.t 17) (.c (.str [10,101,110,100,111,98,106,10]))),mv 4 18] [4]
 .ret)
 .dead))
 .dead)))
def sK:List ay:=[⟨4,true,none⟩]
theorem FA:aC Go.Proofs.Tryz.prog 88 35 sK tZ=true:=by kernel_rfl
theorem Gr{n_0 o_1}{s:ab}{Q:List AV→ab→Prop}:ok (l5 n_0 o_1) (fun r=>Q [.str r.b] s)→FN Go.Proofs.Tryz.prog 88 [.int .i64 n_0,.agg [.int .i64 o_1.V.Kind,.int .i64 o_1.V.N,.str o_1.V.S.b,.sl false 4 o_1.V.L.length (flat o_1.V.L),.bool o_1.Stream,.str o_1.Data.b]] s Q:=by
 intro h
 refine FN.of (af mix) FA rfl (Nat.le_of_ble_eq_true rfl) ?_
 revert h
 rw[tZ,sK,l5]
 repeat'(first
  |with_reducible exact cF
  |with_reducible refine bj ?_ ?_
  |with_reducible refine cJ ?_
  |with_reducible refine ak (fun _(h:gw n_0=some _)=>sr h) (fun r1=>?_)
  |with_reducible refine ak (fun _(h:eR iB o_1.V=some _)=>xP h) (fun r2=>?_)
  |simp -implicitDefEqProofs only[go_sem,seval])
theorem Gq{n_0 o_1}{s:ab}{r:aA}(h:l5 n_0 o_1=some r):FE Go.Proofs.Tryz.prog 88 [.int .i64 n_0,.agg [.int .i64 o_1.V.Kind,.int .i64 o_1.V.N,.str o_1.V.S.b,.sl false 4 o_1.V.L.length (flat o_1.V.L),.bool o_1.Stream,.str o_1.Data.b]] s [.str r.b] s:=Gr ⟨r,h,rfl,rfl⟩
def lE(d_0:dV):Option ((List UInt8)):=
 jn (
  iter (fun((out3,k4):aA×Int)=>
   if decide (k4<(d_0.an.length:Int))then
    aK (0≤k4∧k4<d_0.an.length)<|
    aP (l5 (bz (k4+1)) (ix d_0.an k4)) fun r7=>
    aK (((out3.b.length+r7.b.length:Nat):Int)≤rm)<|
    some (.inl (aA.mk (out3.b++r7.b),bz (k4+1)))
   else
    some (.inr out3)) ((aA.mk [37,80,68,70,45,49,46,55,10]),0)) fun(out2:aA)=>
 aK (((out2.b.length+(aA.mk [116,114,97,105,108,101,114,10,60,60,47,82,111,111,116,32]).b.length:Nat):Int)≤rm)<|
 aP (gw d_0.jW) fun r8=>
 aK ((((aA.mk (out2.b++(aA.mk [116,114,97,105,108,101,114,10,60,60,47,82,111,111,116,32]).b)).b.length+r8.b.length:Nat):Int)≤rm)<|
 aK ((((aA.mk ((aA.mk (out2.b++(aA.mk [116,114,97,105,108,101,114,10,60,60,47,82,111,111,116,32]).b)).b++r8.b)).b.length+(aA.mk [32,48,32,82,62,62,10]).b.length:Nat):Int)≤rm)<|
 some ((aA.mk ((aA.mk ((aA.mk (out2.b++(aA.mk [116,114,97,105,108,101,114,10,60,60,47,82,111,111,116,32]).b)).b++r8.b)).b++(aA.mk [32,48,32,82,62,62,10]).b)).b)
def pV:IC:=
 (ae [i1 1 (.cW 2 (.t 0)),i1 2 (.iR true (.c (.sl true 1 0 [])))] [1]
 (ae [cV 3 (.str [37,80,68,70,45,49,46,55,10])] [1,3]
 (.join [(1,false),(3,false)] (ae [mi 4 0] [1,3,4]
 (.block 0 (.loop [(1,false),(3,false),(4,false)] (.seq (ae [mv 5 4,fa 6 0 1,ld 7 1 6,le 8 0 7,bt 9 .lss 5 8] [1,3,4,9]
 (.cond (.t 9) .skip
 (.exit 0)))
 (.seq (.block 1 (.bD none [mv 12 3,mv 13 4,bn 14 .add 13 1,fa 15 0 1,ld 16 1 15,mv 17 4,ia 18 Sk 16 17,lm 19 6 18,c2 20 88 14 19,bt 21 .add 12 20,mv 3 21] [1,3,4]))
 (.bD none [mv 10 4,bn 11 .add 10 1,mv 4 11] [1,3,4]))))))
 (ae [mv 22 3,i1 23 (.bin .add (.t 22) (.c (.str [116,114,97,105,108,101,114,10,60,60,47,82,111,111,116,32]))),fa 24 1 1,ld 25 1 24,c1 26 89 25,bt 27 .add 23 26,i1 28 (.bin .add (.t 27) (.c (.str [32,48,32,82,62,62,10]))),i1 29 (.fK (.t 28)),mv 2 29] [2]
 .ret))))
def oI:List ay:=[⟨2,true,none⟩]
theorem Bq:aC Go.Proofs.Tryz.prog 44 30 oI pV=true:=by kernel_rfl
theorem BE{d_0}{s:ab}{Q:List AV→ab→Prop}:ok (lE d_0) (fun r=>Q [.sl false 1 r.length (flat r)] s)→FN Go.Proofs.Tryz.prog 44 [.agg [.sl false 6 d_0.an.length (flat d_0.an),.int .i64 d_0.jW]] s Q:=by
 intro h
 refine FN.of (af mix) Bq rfl (Nat.le_of_ble_eq_true rfl) ?_
 revert h
 rw[pV,oI,lE]
 repeat'(first
  |with_reducible exact cF
  |with_reducible refine bj ?_ ?_
  |with_reducible refine cJ ?_
  |with_reducible refine ak (fun _(h:l5 (bz (k4+1)) (ix d_0.an k4)=some _)=>Gq h) (fun r7=>?_)
  |with_reducible refine ak (fun _(h:gw d_0.jW=some _)=>sr h) (fun r8=>?_)
  |((with_reducible refine bf (fun((out3,k4):aA×Int)=>⟨[(1,.loc [.sl false 6 d_0.an.length (flat d_0.an),.int .i64 d_0.jW]),(3,.str out3.b),(4,.int .i64 k4)],[],s⟩) ?_ ?_);(first|exact rfl|simp -implicitDefEqProofs only[go_sem,seval]);rintro J ⟨out3,k4⟩)
  |((with_reducible refine cH (fun(out2:aA)=>⟨[(1,.loc [.sl false 6 d_0.an.length (flat d_0.an),.int .i64 d_0.jW]),(3,.str out2.b)],[],s⟩) (fun J=>?_) ?_);rotate_left;rintro out2)
  |simp -implicitDefEqProofs only[go_sem,seval])
theorem BD{d_0}{s:ab}{r:(List UInt8)}(h:lE d_0=some r):FE Go.Proofs.Tryz.prog 44 [.agg [.sl false 6 d_0.an.length (flat d_0.an),.int .i64 d_0.jW]] s [.sl false 1 r.length (flat r)] s:=BE ⟨r,h,rfl,rfl⟩
def ed(n_0:Int):Option (aa):=some (aa.mk 8 n_0 (aA.mk []) ([]:List aa))
def ug:IC:=
 (ae [i1 2 (.aq gB)] [0,2]
 (ae [mv 3 0,i1 4 (.build gB [(0,1,(.c (.int .i64 8))),(1,1,(.t 3))]),st 4 2 4] [2]
 .ret))
def sR:List ay:=[⟨2,false,some (4,true)⟩]
theorem FI:aC Go.Proofs.Tryz.prog 85 5 sR ug=true:=by kernel_rfl
theorem G7{n_0}{s:ab}{Q:List AV→ab→Prop}:ok (ed n_0) (fun r=>Q [.agg [.int .i64 r.Kind,.int .i64 r.N,.str r.S.b,.sl false 4 r.L.length (flat r.L)]] s)→FN Go.Proofs.Tryz.prog 85 [.int .i64 n_0] s Q:=by
 intro h
 refine FN.of (af mix) FI rfl (Nat.le_of_ble_eq_true rfl) ?_
 revert h
 rw[ug,sR,ed]
 repeat'(first
  |simp -implicitDefEqProofs only[go_sem,seval])
theorem kz{n_0}{s:ab}{r:aa}(h:ed n_0=some r):FE Go.Proofs.Tryz.prog 85 [.int .i64 n_0] s [.agg [.int .i64 r.Kind,.int .i64 r.N,.str r.S.b,.sl false 4 r.L.length (flat r.L)]] s:=G7 ⟨r,h,rfl,rfl⟩
def iu(n_0:Int):Option (aa):=some (aa.mk 2 n_0 (aA.mk []) ([]:List aa))
def uf:IC:=
 (ae [i1 2 (.aq gB)] [0,2]
 (ae [mv 3 0,i1 4 (.build gB [(0,1,(.c (.int .i64 2))),(1,1,(.t 3))]),st 4 2 4] [2]
 .ret))
def sQ:List ay:=[⟨2,false,some (4,true)⟩]
theorem FH:aC Go.Proofs.Tryz.prog 87 5 sQ uf=true:=by kernel_rfl
theorem G6{n_0}{s:ab}{Q:List AV→ab→Prop}:ok (iu n_0) (fun r=>Q [.agg [.int .i64 r.Kind,.int .i64 r.N,.str r.S.b,.sl false 4 r.L.length (flat r.L)]] s)→FN Go.Proofs.Tryz.prog 87 [.int .i64 n_0] s Q:=by
 intro h
 refine FN.of (af mix) FH rfl (Nat.le_of_ble_eq_true rfl) ?_
 revert h
 rw[uf,sQ,iu]
 repeat'(first
  |simp -implicitDefEqProofs only[go_sem,seval])
theorem vQ{n_0}{s:ab}{r:aa}(h:iu n_0=some r):FE Go.Proofs.Tryz.prog 87 [.int .i64 n_0] s [.agg [.int .i64 r.Kind,.int .i64 r.N,.str r.S.b,.sl false 4 r.L.length (flat r.L)]] s:=G6 ⟨r,h,rfl,rfl⟩
def oy:Option (dV):=
 aP (aQ (aA.mk [84,121,112,101])) fun r1=>
 aP (aQ (aA.mk [67,97,116,97,108,111,103])) fun r2=>
 aP (aQ (aA.mk [80,97,103,101,115])) fun r3=>
 aP (ed 2) fun r4=>
 aP (dF [r1,r2,r3,r4]) fun r5=>
 aP (aQ (aA.mk [84,121,112,101])) fun r6=>
 aP (aQ (aA.mk [80,97,103,101,115])) fun r7=>
 aP (aQ (aA.mk [75,105,100,115])) fun r8=>
 aP (ed 4) fun r9=>
 aP (aQ (aA.mk [67,111,117,110,116])) fun r10=>
 aP (iu 1) fun r11=>
 aP (dF [r6,r7,r8,(aa.mk 6 0 (aA.mk []) [r9]),r10,r11]) fun r12=>
 aP (aQ (aA.mk [84,121,112,101])) fun r13=>
 aP (aQ (aA.mk [80,97,103,101])) fun r14=>
 aP (aQ (aA.mk [80,97,114,101,110,116])) fun r15=>
 aP (ed 2) fun r16=>
 aP (aQ (aA.mk [65])) fun r17=>
 aP (ed 3) fun r18=>
 aP (dF [r13,r14,r15,r16,r17,r18]) fun r19=>
 aP (iu 7) fun r20=>
 some (dV.mk [(ag.mk r5 false (aA.mk [])),(ag.mk r12 false (aA.mk [])),(ag.mk r20 false (aA.mk [])),(ag.mk r19 false (aA.mk []))] 1)
theorem D5:(ny Go.Proofs.Tryz.prog 84=true)=True:=eq_true (by kernel_rfl)
theorem D6:(ny Go.Proofs.Tryz.prog 85=true)=True:=eq_true (by kernel_rfl)
def tN:IC:=
 (ae [i1 0 (.aq [.sl true 6 0 [],.int .i64 0])] [0]
 (ae [cV 1 (.fn 84 [] []),cV 2 (.fn 85 [] [])] [0,1,2]
 (ae [mv 6 1,i1 7 (.b6 (.t 6) [(.c (.str [84,121,112,101]))]),mv 8 1,i1 9 (.b6 (.t 8) [(.c (.str [67,97,116,97,108,111,103]))]),mv 10 1,i1 11 (.b6 (.t 10) [(.c (.str [80,97,103,101,115]))]),mv 12 2,i1 13 (.b6 (.t 12) [(.c (.int .i64 2))]),i1 14 (.aY 4 4 [.int .i64 0,.int .i64 0,.str [],.sl true 4 0 [],.int .i64 0,.int .i64 0,.str [],.sl true 4 0 [],.int .i64 0,.int .i64 0,.str [],.sl true 4 0 [],.int .i64 0,.int .i64 0,.str [],.sl true 4 0 []] [(0,4,(.t 7)),(4,4,(.t 9)),(8,4,(.t 11)),(12,4,(.t 13))]),c1 15 86 14,i1 3 (.aq gB),st 4 3 15] [0,1,2,3]
 (ae [mv 16 1,i1 17 (.b6 (.t 16) [(.c (.str [84,121,112,101]))]),mv 18 1,i1 19 (.b6 (.t 18) [(.c (.str [80,97,103,101,115]))]),mv 20 1,i1 21 (.b6 (.t 20) [(.c (.str [75,105,100,115]))]),mv 22 2,i1 23 (.b6 (.t 22) [(.c (.int .i64 4))]),i1 24 (.aY 4 1 gB [(0,4,(.t 23))]),i1 25 (.build gB [(0,1,(.c (.int .i64 6))),(3,1,(.t 24))]),mv 26 1,i1 27 (.b6 (.t 26) [(.c (.str [67,111,117,110,116]))]),i1 28 (.call 87 [(.c (.int .i64 1))]),i1 29 (.aY 4 6 [.int .i64 0,.int .i64 0,.str [],.sl true 4 0 [],.int .i64 0,.int .i64 0,.str [],.sl true 4 0 [],.int .i64 0,.int .i64 0,.str [],.sl true 4 0 [],.int .i64 0,.int .i64 0,.str [],.sl true 4 0 [],.int .i64 0,.int .i64 0,.str [],.sl true 4 0 [],.int .i64 0,.int .i64 0,.str [],.sl true 4 0 []] [(0,4,(.t 17)),(4,4,(.t 19)),(8,4,(.t 21)),(12,4,(.t 25)),(16,4,(.t 27)),(20,4,(.t 28))]),c1 30 86 29,i1 4 (.aq gB),st 4 4 30] [0,1,2,3,4]
 (ae [mv 31 1,i1 32 (.b6 (.t 31) [(.c (.str [84,121,112,101]))]),mv 33 1,i1 34 (.b6 (.t 33) [(.c (.str [80,97,103,101]))]),mv 35 1,i1 36 (.b6 (.t 35) [(.c (.str [80,97,114,101,110,116]))]),mv 37 2,i1 38 (.b6 (.t 37) [(.c (.int .i64 2))]),mv 39 1,i1 40 (.b6 (.t 39) [(.c (.str [65]))]),mv 41 2,i1 42 (.b6 (.t 41) [(.c (.int .i64 3))]),i1 43 (.aY 4 6 [.int .i64 0,.int .i64 0,.str [],.sl true 4 0 [],.int .i64 0,.int .i64 0,.str [],.sl true 4 0 [],.int .i64 0,.int .i64 0,.str [],.sl true 4 0 [],.int .i64 0,.int .i64 0,.str [],.sl true 4 0 [],.int .i64 0,.int .i64 0,.str [],.sl true 4 0 [],.int .i64 0,.int .i64 0,.str [],.sl true 4 0 []] [(0,4,(.t 32)),(4,4,(.t 34)),(8,4,(.t 36)),(12,4,(.t 38)),(16,4,(.t 40)),(20,4,(.t 42))]),c1 44 86 43,i1 5 (.aq gB),st 4 5 44] [0,3,4,5]
 (.seq (.bD (some 10) [lm 45 4 3,i1 46 (.build xM [(0,4,(.t 45))]),lm 47 4 4,i1 48 (.build xM [(0,4,(.t 47))]),i1 49 (.call 87 [(.c (.int .i64 7))]),i1 50 (.build xM [(0,4,(.t 49))]),lm 51 4 5,i1 52 (.build xM [(0,4,(.t 51))]),i1 53 (.aY 6 4 [.int .i64 0,.int .i64 0,.str [],.sl true 4 0 [],.bool false,.str [],.int .i64 0,.int .i64 0,.str [],.sl true 4 0 [],.bool false,.str [],.int .i64 0,.int .i64 0,.str [],.sl true 4 0 [],.bool false,.str [],.int .i64 0,.int .i64 0,.str [],.sl true 4 0 [],.bool false,.str []] [(0,6,(.t 46)),(6,6,(.t 48)),(12,6,(.t 50)),(18,6,(.t 52))]),i1 54 (.build [.sl true 6 0 [],.int .i64 0] [(0,1,(.t 53)),(1,1,(.c (.int .i64 1)))]),st 2 0 54] [0])
 .ret))))))
def sA:List ay:=[⟨0,false,some (2,true)⟩]
theorem Fm:aC Go.Proofs.Tryz.prog 43 55 sA tN=true:=by kernel_rfl
theorem FO{s:ab}{Q:List AV→ab→Prop}:ok (oy) (fun r=>Q [.agg [.sl false 6 r.an.length (flat r.an),.int .i64 r.jW]] s)→FN Go.Proofs.Tryz.prog 43 [] s Q:=by
 intro h
 refine FN.of (af mix) Fm rfl (Nat.le_of_ble_eq_true rfl) ?_
 revert h
 rw[tN,sA,oy]
 repeat'(first
  |((fail_if_success (have _x:=r1));with_reducible refine ak (fun _(h:aQ (aA.mk [84,121,112,101])=some _)=>bL h) (fun r1=>?_))
  |with_reducible refine ak (fun _(h:aQ (aA.mk [67,97,116,97,108,111,103])=some _)=>bL h) (fun r2=>?_)
  |((fail_if_success (have _x:=r3));with_reducible refine ak (fun _(h:aQ (aA.mk [80,97,103,101,115])=some _)=>bL h) (fun r3=>?_))
  |((fail_if_success (have _x:=r4));with_reducible refine ak (fun _(h:ed 2=some _)=>kz h) (fun r4=>?_))
  |with_reducible refine ak (fun _(h:dF [r1,r2,r3,r4]=some _)=>(by refine jV ?_ (jd h);simp -implicitDefEqProofs only[go_sem,seval,D5,D6])) (fun r5=>?_)
  |((fail_if_success (have _x:=r6));with_reducible refine ak (fun _(h:aQ (aA.mk [84,121,112,101])=some _)=>bL h) (fun r6=>?_))
  |((fail_if_success (have _x:=r7));with_reducible refine ak (fun _(h:aQ (aA.mk [80,97,103,101,115])=some _)=>bL h) (fun r7=>?_))
  |with_reducible refine ak (fun _(h:aQ (aA.mk [75,105,100,115])=some _)=>bL h) (fun r8=>?_)
  |with_reducible refine ak (fun _(h:ed 4=some _)=>kz h) (fun r9=>?_)
  |with_reducible refine ak (fun _(h:aQ (aA.mk [67,111,117,110,116])=some _)=>bL h) (fun r10=>?_)
  |with_reducible refine ak (fun _(h:iu 1=some _)=>vQ h) (fun r11=>?_)
  |with_reducible refine ak (fun _(h:dF [r6,r7,r8,(aa.mk 6 0 (aA.mk []) [r9]),r10,r11]=some _)=>(by refine jV ?_ (jd h);simp -implicitDefEqProofs only[go_sem,seval,D5,D6])) (fun r12=>?_)
  |((fail_if_success (have _x:=r13));with_reducible refine ak (fun _(h:aQ (aA.mk [84,121,112,101])=some _)=>bL h) (fun r13=>?_))
  |with_reducible refine ak (fun _(h:aQ (aA.mk [80,97,103,101])=some _)=>bL h) (fun r14=>?_)
  |with_reducible refine ak (fun _(h:aQ (aA.mk [80,97,114,101,110,116])=some _)=>bL h) (fun r15=>?_)
  |((fail_if_success (have _x:=r16));with_reducible refine ak (fun _(h:ed 2=some _)=>kz h) (fun r16=>?_))
  |with_reducible refine ak (fun _(h:aQ (aA.mk [65])=some _)=>bL h) (fun r17=>?_)
  |with_reducible refine ak (fun _(h:ed 3=some _)=>kz h) (fun r18=>?_)
  |with_reducible refine ak (fun _(h:dF [r13,r14,r15,r16,r17,r18]=some _)=>(by refine jV ?_ (jd h);simp -implicitDefEqProofs only[go_sem,seval,D5,D6])) (fun r19=>?_)
  |with_reducible refine bH (fun _(h:iu 7=some _)=>vQ h) (fun _=>rfl) (fun r20=>?_)
  |simp -implicitDefEqProofs only[go_sem,seval,D5,D6])
theorem uA{s:ab}{r:dV}(h:oy=some r):FE Go.Proofs.Tryz.prog 43 [] s [.agg [.sl false 6 r.an.length (flat r.an),.int .i64 r.jW]] s:=FO ⟨r,h,rfl,rfl⟩
def wC(b_0:(List UInt8))(at_1:Int):Option (Int×Bool):=
 aK (0≤at_1∧at_1<b_0.length)<|
 aK ((!(decide (((ix b_0 at_1).toNat:Int)<48)))=true→0≤at_1∧at_1<b_0.length)<|
 if(decide (((ix b_0 at_1).toNat:Int)<48))||(decide (((ix b_0 at_1).toNat:Int)>57))then
  some (0,false)
 else
  aP (eG b_0 at_1 true) fun r1=>
  if((r1.2.2 !=0)||(decide (r1.1<1)))||(decide (r1.1>4096))then
   some (0,false)
  else
   aP (eG b_0 r1.2.1 true) fun r2=>
   if(r2.2.2 !=0)||(r2.1 !=0)then
    some (0,false)
   else
    aP (ju b_0 r2.2.1 true (aA.mk [111,98,106])) fun r3=>
    some (r1.1,r3.2==0)
def z6:IC:=
 (ae [mi 4 0,cV 5 (.bool false)] [0,1]
 (.seq (ae [mv 9 0,mv 10 1,ia 11 [.int .u8 0] 9 10,ld 12 1 11,bu 13 .lss 12 48,mv 14 13,c9 15 0 14 false,c9 16 1 14 false,cS 17 14 false (.indexAddr [.int .u8 0] (.t 15) (.t 16)),lg 18 14 false 1 17,cS 19 14 false (.bin .gtr (.t 18) (.c (.int .u8 57))),po 20 14 19] [0,1,20]
 (.cond (.t 20) (ae [mi 4 0,cV 5 (.bool false)] [4,5]
 .ret)
 .skip))
 (ae [mv 22 0,mv 23 1,i1 24 (.call 69 [(.t 22),(.t 23),(.c (.bool true))]),iw 21 24,ex 25 21 0,ex 26 21 1,ex 27 21 2,mv 6 25,mv 1 26,mv 7 27] [0,1,6,7]
 (.seq (ae [mv 28 7,bn 29 .neq 28 0,mv 30 29,c9 31 6 30 false,jx 32 30 false .lss 31 1,po 33 30 32,mv 34 33,c9 35 6 34 false,jx 36 34 false .gtr 35 4096,po 37 34 36] [0,1,6,37]
 (.cond (.t 37) (ae [mi 4 0,cV 5 (.bool false)] [4,5]
 .ret)
 .skip))
 (ae [mv 39 0,mv 40 1,i1 41 (.call 69 [(.t 39),(.t 40),(.c (.bool true))]),iw 38 41,ex 42 38 0,ex 43 38 1,ex 44 38 2,mv 8 42,mv 1 43,mv 7 44] [0,1,6,7,8]
 (.seq (ae [mv 45 7,bn 46 .neq 45 0,mv 47 46,c9 48 8 47 false,jx 49 47 false .neq 48 0,po 50 47 49] [0,1,6,50]
 (.cond (.t 50) (ae [mi 4 0,cV 5 (.bool false)] [4,5]
 .ret)
 .skip))
 (ae [mt 52 0,mv 53 1,i1 54 (.call 70 [(.t 52),(.t 53),(.c (.bool true)),(.c (.str [111,98,106]))]),iw 51 54,ex 55 51 0,ex 56 51 1,mv 7 56] [6,7]
 (ae [mv 57 6,mv 58 7,bn 59 .eql 58 0,mv 4 57,mv 5 59] [4,5]
 .ret))))))))
def x6:List ay:=[⟨4,true,none⟩,⟨5,true,none⟩]
theorem La:aC Go.Proofs.Tryz.prog 32 60 x6 z6=true:=by kernel_rfl
theorem LY{b_0 at_1}{s:ab}{Q:List AV→ab→Prop}:ok (wC b_0 at_1) (fun r=>Q [.int .i64 r.1,.bool r.2] s)→FN Go.Proofs.Tryz.prog 32 [.sl false 1 b_0.length (flat b_0),.int .i64 at_1] s Q:=by
 intro h
 refine FN.of (af mix) La rfl (Nat.le_of_ble_eq_true rfl) ?_
 revert h
 rw[z6,x6,wC]
 repeat'(first
  |with_reducible exact cF
  |with_reducible refine bj ?_ ?_
  |with_reducible refine cJ ?_
  |with_reducible refine ak (fun _(h:eG b_0 at_1 true=some _)=>ml h) (fun r1=>?_)
  |with_reducible refine ak (fun _(h:eG b_0 r1.2.1 true=some _)=>ml h) (fun r2=>?_)
  |with_reducible refine ak (fun _(h:ju b_0 r2.2.1 true (aA.mk [111,98,106])=some _)=>xK h) (fun r3=>?_)
  |simp -implicitDefEqProofs only[go_sem,seval])
theorem LX{b_0 at_1}{s:ab}{r:Int×Bool}(h:wC b_0 at_1=some r):FE Go.Proofs.Tryz.prog 32 [.sl false 1 b_0.length (flat b_0),.int .i64 at_1] s [.int .i64 r.1,.bool r.2] s:=LY ⟨r,h,rfl,rfl⟩
def wH(e_0:Int):Option (Bool):=some (((e_0==0)||(e_0==6))||(e_0==25))
def Ai:IC:=
 (ae [cV 2 (.bool false)] [0]
 (ae [mv 3 0,bn 4 .eql 3 0,mv 5 4,c9 6 0 5 false,jx 7 5 false .eql 6 6,po 8 5 7,mv 9 8,c9 10 0 9 false,jx 11 9 false .eql 10 25,po 12 9 11,mv 2 12] [2]
 .ret))
def yi:List ay:=[⟨2,true,none⟩]
theorem Ll:aC Go.Proofs.Tryz.prog 91 13 yi Ai=true:=by kernel_rfl
theorem Mx{e_0}{s:ab}{Q:List AV→ab→Prop}:ok (wH e_0) (fun r=>Q [.bool r] s)→FN Go.Proofs.Tryz.prog 91 [.int .i64 e_0] s Q:=by
 intro h
 refine FN.of (af mix) Ll rfl (Nat.le_of_ble_eq_true rfl) ?_
 revert h
 rw[Ai,yi,wH]
 repeat'(first
  |simp -implicitDefEqProofs only[go_sem,seval])
theorem Mw{e_0}{s:ab}{r:Bool}(h:wH e_0=some r):FE Go.Proofs.Tryz.prog 91 [.int .i64 e_0] s [.bool r] s:=Mx ⟨r,h,rfl,rfl⟩
def lM(a_0:(List UInt8))(b_1:(List UInt8)):Option (Bool):=some ((aA.mk a_0).b==(aA.mk b_1).b)
def tK:IC:=
 (ae [cV 4 (.bool false)] [0,1]
 (ae [mt 5 0,i1 6 (.eF (.t 5)),mt 7 1,i1 8 (.eF (.t 7)),bt 9 .eql 6 8,mv 4 9] [4]
 .ret))
def sw:List ay:=[⟨4,true,none⟩]
theorem Fh:aC Go.Proofs.Tryz.prog 73 10 sw tK=true:=by kernel_rfl
theorem Ez{a_0 b_1}{s:ab}{Q:List AV→ab→Prop}:ok (lM a_0 b_1) (fun r=>Q [.bool r] s)→FN Go.Proofs.Tryz.prog 73 [.sl false 1 a_0.length (flat a_0),.sl false 1 b_1.length (flat b_1)] s Q:=by
 intro h
 refine FN.of (af mix) Fh rfl (Nat.le_of_ble_eq_true rfl) ?_
 revert h
 rw[tK,sw,lM]
 repeat'(first
  |simp -implicitDefEqProofs only[go_sem,seval])
theorem Ey{a_0 b_1}{s:ab}{r:Bool}(h:lM a_0 b_1=some r):FE Go.Proofs.Tryz.prog 73 [.sl false 1 a_0.length (flat a_0),.sl false 1 b_1.length (flat b_1)] s [.bool r] s:=Ez ⟨r,h,rfl,rfl⟩
def iZ(s_0:(List UInt8))(prefix_1:(List UInt8)):Option (Bool):=
 aK ((decide ((s_0.length:Int)≥(prefix_1.length:Int)))=true→0≤(0:Int)∧0≤(prefix_1.length:Int)∧(prefix_1.length:Int)≤s_0.length)<|
 aP (fY (decide ((s_0.length:Int)≥(prefix_1.length:Int))) false (lM (part s_0 0 (prefix_1.length:Int)) prefix_1)) fun r1=>
 some ((decide ((s_0.length:Int)≥(prefix_1.length:Int)))&&r1)
def nz:IC:=
 (ae [cV 4 (.bool false)] [0,1]
 (.seq (.bD (some 12) [mv 5 0,le 6 0 5,mv 7 1,le 8 0 7,bt 9 .geq 6 8,mv 10 9,c9 11 0 10 true,c9 12 1 10 true,cS 13 10 true (.len 0 (.t 12)),cS 14 10 true (.slice 1 (.t 11) none (some (.t 13)) none),c9 15 1 10 true,Un 16 10 true 73 14 15,pf 17 10 16,mv 4 17] [4])
 .ret))
def mD:List ay:=[⟨4,true,none⟩]
theorem yL:aC Go.Proofs.Tryz.prog 35 18 mD nz=true:=by kernel_rfl
theorem yr{s_0 prefix_1}{s:ab}{Q:List AV→ab→Prop}:ok (iZ s_0 prefix_1) (fun r=>Q [.bool r] s)→FN Go.Proofs.Tryz.prog 35 [.sl false 1 s_0.length (flat s_0),.sl false 1 prefix_1.length (flat prefix_1)] s Q:=by
 intro h
 refine FN.of (af mix) yL rfl (Nat.le_of_ble_eq_true rfl) ?_
 revert h
 rw[nz,mD,iZ]
 repeat'(first
  |with_reducible exact cF
  |with_reducible refine bj ?_ ?_
  |with_reducible refine dg rfl (fun _(h:lM (part s_0 0 (prefix_1.length:Int)) prefix_1=some _)=>Ey h) (fun _=>rfl) (fun r1=>?_)
  |simp -implicitDefEqProofs only[go_sem,seval])
theorem yq{s_0 prefix_1}{s:ab}{r:Bool}(h:iZ s_0 prefix_1=some r):FE Go.Proofs.Tryz.prog 35 [.sl false 1 s_0.length (flat s_0),.sl false 1 prefix_1.length (flat prefix_1)] s [.bool r] s:=yr ⟨r,h,rfl,rfl⟩
end Go.AB
end
