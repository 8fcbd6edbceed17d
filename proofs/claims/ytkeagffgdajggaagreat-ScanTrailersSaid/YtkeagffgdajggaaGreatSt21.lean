/- A part. -/
import Derived.Test.YtkeagffgdajggaaGreatSt20
set_option linter.unusedSimpArgs false
set_option linter.unusedVariables false
section
set_option maxRecDepth 4000
namespace Go.AB
open Go
open Go.Proofs.Tryz (prog)
attribute[-go_sem] cV dB cg cU Nat.add_zero tz du
def iu(b_0:(List UInt8))(ay:Int)(aj:Bool)(n_3:Int):Option (Bool×Int×Int):=
 ba (bD b_0 ay aj) fun r1=>
 if r1.2==6 then
  some (false,0,r1.2)
 else
  ba (dQ (!(r1.2 !=0)) false (cL r1.1)) fun r2=>
  if(r1.2 !=0)||(!r2)then
   some (false,0,0)
  else
   ba (bD b_0 r1.1.To aj) fun r3=>
   if r3.2==6 then
    some (false,0,r3.2)
   else
    if((r3.2 !=0)||(r3.1.Kind !=6))||(!(r3.1.S.b==(aC.mk [82]).b))then
     some (false,0,0)
    else
     if((decide (n_3<1))||(decide (n_3>4096)))||(r1.1.V.N !=0)then
      some (false,0,26)
     else
      some (true,r3.1.To,0)
def wG:IC:=
 (ag [cY 8 (.bool false),mi 9 0,mi 10 0] [0,1,2,3]
 (ag [mv 16 0,mv 17 1,mv 18 2,c3 19 80 16 17 18,jJ 15 19,ex 20 15 0,ex 21 15 1,i1 11 (.aA jK),st 8 11 20,mv 12 21] [0,2,3,11,12]
 (.seq (ag [mv 22 12,bn 23 .eql 22 6] [0,2,3,11,12,23]
 (.cond (.t 23) (ag [mv 24 12,cY 8 (.bool false),mi 9 0,mv 10 24] [8,9,10]
 .ret)
 .skip))
 (.seq (.seq (.bP (some 5) [mv 25 12,bn 26 .neq 25 0,mv 27 26,b6 28 27 false (.load 8 true (.t 11)),Fm 29 27 false 126 28,b6 30 27 false (.un .not (.t 29)),po 31 27 30] [0,2,3,11,31])
 (.cond (.t 31) (ag [cY 8 (.bool false),mi 9 0,mi 10 0] [8,9,10]
 .ret)
 .skip))
 (ag [mt 33 0,fa 34 2 11,ld 35 1 34,mv 36 2,c3 37 80 33 35 36,jJ 32 37,ex 38 32 0,ex 39 32 1,i1 13 (.aA jK),st 8 13 38,mv 14 39] [3,11,13,14]
 (.seq (ag [mv 40 14,bn 41 .eql 40 6] [3,11,13,14,41]
 (.cond (.t 41) (ag [mv 42 14,cY 8 (.bool false),mi 9 0,mv 10 42] [8,9,10]
 .ret)
 .skip))
 (.seq (ag [mv 43 14,bn 44 .neq 43 0,mv 45 44,fg 46 45 false 0 13,lg 47 45 false 1 46,im 48 45 false .neq 47 6,po 49 45 48,mv 50 49,fg 51 50 false 7 13,lg 52 50 false 1 51,b6 53 50 false (.bin .neq (.t 52) (.c (.str [82]))),po 54 50 53] [3,11,13,54]
 (.cond (.t 54) (ag [cY 8 (.bool false),mi 9 0,mi 10 0] [8,9,10]
 .ret)
 .skip))
 (.seq (ag [mv 55 3,bn 56 .lss 55 1,mv 57 56,bK 58 3 57 false,im 59 57 false .gtr 58 4096,po 60 57 59,mv 61 60,fg 62 61 false 3 11,fg 63 61 false 1 62,lg 64 61 false 1 63,im 65 61 false .neq 64 0,po 66 61 65] [13,66]
 (.cond (.t 66) (ag [cY 8 (.bool false),mi 9 0,mi 10 26] [8,9,10]
 .ret)
 .skip))
 (.seq (.bP (some 5) [fa 67 2 13,ld 68 1 67,cY 8 (.bool true),mv 9 68,mi 10 0] [8,9,10])
 .ret)))))))))
theorem GF:aY prog 139 69 [⟨8,true,none⟩,⟨9,true,none⟩,⟨10,true,none⟩] wG=true:=by kernel_rfl
theorem Hw{b_0 ay aj n_3}{s:ab}{Q:List AV->ab->Prop}:ok (iu b_0 ay aj n_3) (fun r=>Q [.bool r.1,.int .i64 r.2.1,.int .i64 r.2.2] s)->FN prog 139 [sF 1 b_0,.int .i64 ay,.bool aj,.int .i64 n_3] s Q:=by
 intro h
 refine FO GF rfl rfl ?_
 revert h
 rw[wG,iu]
 repeat'(first
  |(with_reducible first|exact dh|refine b9 ?_ ?_|refine dT ?_|refine ax (fun _(h:bD b_0 ay aj=some _)=>gF h) (fun r1=>?_)|refine c8 rfl (fun _(h:cL r1.1=some _)=>sq h) (fun _=>rfl) (fun r2=>?_)|refine ax (fun _(h:bD b_0 r1.1.To aj=some _)=>gF h) (fun r3=>?_))
  |simp -implicitDefEqProofs only[go_sem,seval])
theorem Hv{b_0 ay aj n_3}{s:ab}{r:Bool×Int×Int}(h:iu b_0 ay aj n_3=some r):FE prog 139 [sF 1 b_0,.int .i64 ay,.bool aj,.int .i64 n_3] s [.bool r.1,.int .i64 r.2.1,.int .i64 r.2.2] s:=Hw ⟨r,h,rfl,rfl⟩
def b4(v_0:aa)(cd:aC):Option (Int):=
 oU (
  kU (
   iter (fun(k2:Int)=>
    if(v_0.Kind==7)&&(decide (k2<(v_0.L.length:Int)))then
     aH (0<=k2/\k2<v_0.L.length)<|
     aH ((((ix v_0.L k2).Kind)==5)=true->0<=k2/\k2<v_0.L.length)<|
     if(((ix v_0.L k2).Kind)==5)&&(((ix v_0.L k2).S).b==cd.b)then
      some (.inr (.inr k2))
     else
      some (.inl (ao (k2+2)))
    else
     some (.inr (.inl ()))) 0) (fun(_:Unit)=>
   some (.inl ()))
  (fun(t3:Int)=>some (.inr t3))) (fun(_:Unit)=>
  some (-1))
 (fun(t1:Int)=>some t1)
def uj:IC:=
 (ag [i1 2 (.jf 4 (.t 0)),mi 4 0] [1,2]
 (.join [] (ag [mi 5 0] [1,2,5]
 (.block 0 (.loop [(1,false),(2,false),(5,false)] (.seq (ag [fa 6 0 2,ld 7 1 6,bn 8 .eql 7 7,mv 9 8,bK 10 5 9 true,fg 11 9 true 3 2,lg 12 9 true 1 11,b6 13 9 true (.len 0 (.t 12)),sm 14 9 true .lss 10 13,pf 15 9 14] [1,2,5,15]
 (.cond (.t 15) .skip
 (.exit 0)))
 (.seq (.block 1 (ag [fa 18 3 2,ld 19 1 18,mv 20 5,ia 21 CS 19 20,fa 22 0 21,ld 23 1 22,bn 24 .eql 23 5,mv 25 24,fg 26 25 true 3 2,lg 27 25 true 1 26,bK 28 5 25 true,b6 29 25 true (.indexAddr CS (.t 27) (.t 28)),fg 30 25 true 2 29,lg 31 25 true 1 30,bK 32 1 25 true,sm 33 25 true .eql 31 32,pf 34 25 33] [1,2,5,34]
 (.cond (.t 34) (ag [mv 35 5,mv 4 35] [4]
 .ret)
 .skip)))
 (.bP none [mv 16 5,bn 17 .add 16 2,mv 5 17] [1,2,5]))))))
 (ag [mi 4 (-1)] [4]
 .ret)))
theorem DY:aY prog 82 36 [⟨4,true,none⟩] uj=true:=by kernel_rfl
theorem Em{v_0 cd}{s:ab}{Q:List AV->ab->Prop}:ok (b4 v_0 cd) (fun r=>Q [.int .i64 r] s)->FN prog 82 [oV v_0,.str cd.b] s Q:=by
 intro h
 refine FO DY rfl rfl ?_
 revert h
 rw[uj,b4]
 repeat'(first
  |((with_reducible refine ch (fun(k2:Int)=>⟨[(1,.str cd.b),(2,.loc [.int .i64 v_0.Kind,.int .i64 v_0.N,.str v_0.S.b,sF 4 v_0.L]),(5,.int .i64 k2)],[],s⟩) ?_ ?_);(first|exact rfl|simp -implicitDefEqProofs only[go_sem,seval]);rintro J k2)
  |((with_reducible refine bV (fun(_:Unit)=>⟨[],[],s⟩) (fun J=>?_) ?_);rotate_left;rintro _)
  |simp -implicitDefEqProofs only[go_sem,seval])
theorem od{v_0 cd}{s:ab}{r:Int}(h:b4 v_0 cd=some r):FE prog 82 [oV v_0,.str cd.b] s [.int .i64 r] s:=Em ⟨r,h,rfl,rfl⟩
def fk(v_0:aa)(cd:aC)(x_2:aa):Option (aa):=
 if v_0.Kind !=7 then
  some v_0
 else
  ba (b4 v_0 cd) fun r1=>
  jn (
   iter (fun((K0,rk,k11):(List aa)×Bool×Int)=>
    if decide (k11<(v_0.L.length:Int))then
     jn (
      jn (
       aH (((decide (r1<0))&&(!rk))=true->0<=k11/\k11<v_0.L.length)<|
       aH ((((decide (r1<0))&&(!rk))&&(((ix v_0.L k11).Kind)==5))=true->0<=k11/\k11<v_0.L.length)<|
       if(((decide (r1<0))&&(!rk))&&(((ix v_0.L k11).Kind)==5))&&(!((Op.bytesLess ((ix v_0.L k11).S).b cd.b)||(((ix v_0.L k11).S).b==cd.b)))then
        aH ((K0.length+[(aa.mk 5 0 cd ([]:List aa)),x_2].length)*56<=room)<|
        some (K0++[(aa.mk 5 0 cd ([]:List aa)),x_2],true)
       else
        some (K0,rk)) fun((xc,xS):(List aa)×Bool)=>
      aH (0<=k11/\k11<v_0.L.length)<|
      aH ((xc.length+[ix v_0.L k11].length)*56<=room)<|
      if k11==r1 then
       aH (((xc++[ix v_0.L k11]).length+[x_2].length)*56<=room)<|
       some ((xc++[ix v_0.L k11])++[x_2],xS)
      else
       if decide (ao (k11+1)<(v_0.L.length:Int))then
        aH (0<=ao (k11+1)/\ao (k11+1)<v_0.L.length)<|
        aH (((xc++[ix v_0.L k11]).length+[ix v_0.L (ao (k11+1))].length)*56<=room)<|
        some ((xc++[ix v_0.L k11])++[ix v_0.L (ao (k11+1))],xS)
       else
        some (xc++[ix v_0.L k11],xS)) fun((zM,U6):(List aa)×Bool)=>
     some (.inl (zM,U6,ao (k11+2)))
    else
     some (.inr (K0,rk))) (([]:List aa),false,0)) fun((qR,LL):(List aa)×Bool)=>
  jn (
   if(decide (r1<0))&&(!LL)then
    aH ((qR.length+[(aa.mk 5 0 cd ([]:List aa)),x_2].length)*56<=room)<|
    some (qR++[(aa.mk 5 0 cd ([]:List aa)),x_2])
   else
    some qR) fun(Mk:(List aa))=>
  some (aa.mk v_0.Kind v_0.N v_0.S Mk)
def wF:IC:=
 (ag [i1 3 (.jf 4 (.t 0)),i1 5 (.jf 4 (.t 2)),i1 6 (.aA dD)] [1,3,5,6]
 (.seq (ag [fa 11 0 3,ld 12 1 11,bn 13 .neq 12 7] [1,3,5,6,13]
 (.cond (.t 13) (ag [lm 14 4 3,st 4 6 14] [6]
 .ret)
 .skip))
 (ag [i1 7 (.iJ true (.c (.sl true 4 0 [])))] [1,3,5,6,7]
 (ag [lm 15 4 3,mv 16 1,c2 17 82 15 16,mv 8 17] [1,3,5,6,7,8]
 (ag [cY 9 (.bool false)] [1,3,5,6,7,8,9]
 (.join [(1,false),(3,false),(5,false),(6,false),(7,false),(8,false),(9,false)] (ag [mi 10 0] [1,3,5,6,7,8,9,10]
 (.block 0 (.loop [(1,false),(3,false),(5,false),(6,false),(7,false),(8,false),(9,false),(10,false)] (.seq (ag [mv 18 10,fa 19 3 3,ld 20 1 19,le 21 0 20,bt 22 .lss 18 21] [1,3,5,6,7,8,9,10,22]
 (.cond (.t 22) .skip
 (.exit 0)))
 (.join [(1,false),(3,false),(5,false),(6,false),(7,false),(8,false),(9,false),(10,false)] (.block 1 (.join [(1,false),(3,false),(5,false),(6,false),(7,false),(8,false),(9,false),(10,false)] (ag [mv 25 8,bn 26 .lss 25 0,mv 27 26,bK 28 9 27 true,b6 29 27 true (.un .not (.t 28)),pf 30 27 29,mv 31 30,fg 32 31 true 3 3,lg 33 31 true 1 32,bK 34 10 31 true,b6 35 31 true (.indexAddr CS (.t 33) (.t 34)),fg 36 31 true 0 35,lg 37 31 true 1 36,im 38 31 true .eql 37 5,pf 39 31 38,mv 40 39,fg 41 40 true 3 3,lg 42 40 true 1 41,bK 43 10 40 true,b6 44 40 true (.indexAddr CS (.t 42) (.t 43)),fg 45 40 true 2 44,lg 46 40 true 1 45,bK 47 1 40 true,sm 48 40 true .gtr 46 47,pf 49 40 48] [1,3,5,6,7,8,9,10,49]
 (.cond (.t 49) (ag [mt 50 7,mv 51 1,i1 52 (.build dD [(0,1,(.c (.int .i64 5))),(2,1,(.t 51))]),lm 53 4 5,i1 54 (.bB 4 2 [.int .i64 0,.int .i64 0,.str [],.sl true 4 0 [],.int .i64 0,.int .i64 0,.str [],.sl true 4 0 []] [(0,4,(.t 52)),(4,4,(.t 53))]),JA 55 4 56 50 54,mt 7 55] [1,3,5,6,7,8,10]
 (.bP none [cY 9 (.bool true)] [1,3,5,6,7,8,9,10]))
 .skip))
 (ag [mt 56 7,fa 57 3 3,ld 58 1 57,mv 59 10,ia 60 CS 58 59,lm 61 4 60,i1 62 (.bB 4 1 dD [(0,4,(.t 61))]),JA 63 4 56 56 62,mt 7 63] [1,3,5,6,7,8,9,10]
 (ag [mv 64 10,mv 65 8,bt 66 .eql 64 65] [1,3,5,6,7,8,9,10,66]
 (.cond (.t 66) (.bP none [mt 67 7,lm 68 4 5,i1 69 (.bB 4 1 dD [(0,4,(.t 68))]),JA 70 4 56 67 69,mt 7 70] [1,3,5,6,7,8,9,10])
 (ag [mv 71 10,bn 72 .add 71 1,fa 73 3 3,ld 74 1 73,le 75 0 74,bt 76 .lss 72 75] [1,3,5,6,7,8,9,10,76]
 (.cond (.t 76) (.bP none [mt 77 7,fa 78 3 3,ld 79 1 78,mv 80 10,bn 81 .add 80 1,ia 82 CS 79 81,lm 83 4 82,i1 84 (.bB 4 1 dD [(0,4,(.t 83))]),JA 85 4 56 77 84,mt 7 85] [1,3,5,6,7,8,9,10])
 .skip)))))))
 (.bP none [mv 23 10,bn 24 .add 23 2,mv 10 24] [1,3,5,6,7,8,9,10]))))))
 (.join [(3,false),(6,false),(7,false)] (ag [mv 86 8,bn 87 .lss 86 0,mv 88 87,bK 89 9 88 true,b6 90 88 true (.un .not (.t 89)),pf 91 88 90] [1,3,5,6,7,91]
 (.cond (.t 91) (.bP none [mt 92 7,mv 93 1,i1 94 (.build dD [(0,1,(.c (.int .i64 5))),(2,1,(.t 93))]),lm 95 4 5,i1 96 (.bB 4 2 [.int .i64 0,.int .i64 0,.str [],.sl true 4 0 [],.int .i64 0,.int .i64 0,.str [],.sl true 4 0 []] [(0,4,(.t 94)),(4,4,(.t 95))]),JA 97 4 56 92 96,mt 7 97] [3,6,7])
 .skip))
 (ag [mt 98 7,fa 99 3 3,st 1 99 98] [3,6]
 (ag [lm 100 4 3,st 4 6 100] [6]
 .ret)))))))))
theorem GD:aY prog 142 101 [⟨6,false,some (4,true)⟩] wF=true:=by kernel_rfl
theorem Hu{v_0 cd x_2}{s:ab}{Q:List AV->ab->Prop}:ok (fk v_0 cd x_2) (fun r=>Q [oV r] s)->FN prog 142 [oV v_0,.str cd.b,oV x_2] s Q:=by
 intro h
 refine FO GD rfl rfl ?_
 revert h
 rw[wF,fk]
 repeat'(first
  |(with_reducible first|exact dh|refine b9 ?_ ?_|refine dT ?_|refine ax (fun _(h:b4 v_0 cd=some _)=>od h) (fun r1=>?_))
  |((with_reducible refine dI (live:=[(1,false),(3,false),(5,false),(6,false),(7,false),(8,false),(9,false),(10,false)]) (fun((xc,xS):(List aa)×Bool)=>⟨[(1,.str cd.b),(3,.loc [.int .i64 v_0.Kind,.int .i64 v_0.N,.str v_0.S.b,sF 4 v_0.L]),(5,.loc [.int .i64 x_2.Kind,.int .i64 x_2.N,.str x_2.S.b,sF 4 x_2.L]),(6,.loc [.int .i64 0,.int .i64 0,.str (aC.mk []).b,.sl true 4 0 []]),(7,sT 4 xc),(8,.int .i64 r1),(9,.bool xS),(10,.int .i64 k11)],[],s⟩) (fun J=>?_) ?_);rotate_left;rintro⟨xc,xS⟩)
  |((with_reducible refine ch (fun((K0,rk,k11):(List aa)×Bool×Int)=>⟨[(1,.str cd.b),(3,.loc [.int .i64 v_0.Kind,.int .i64 v_0.N,.str v_0.S.b,sF 4 v_0.L]),(5,.loc [.int .i64 x_2.Kind,.int .i64 x_2.N,.str x_2.S.b,sF 4 x_2.L]),(6,.loc [.int .i64 0,.int .i64 0,.str (aC.mk []).b,.sl true 4 0 []]),(7,sT 4 K0),(8,.int .i64 r1),(9,.bool rk),(10,.int .i64 k11)],[],s⟩) ?_ ?_);(first|exact rfl|simp -implicitDefEqProofs only[go_sem,seval]);rintro J ⟨K0,rk,k11⟩)
  |((with_reducible refine dI (live:=[(1,false),(3,false),(5,false),(6,false),(7,false),(8,false),(9,false)]) (fun((qR,LL):(List aa)×Bool)=>⟨[(1,.str cd.b),(3,.loc [.int .i64 v_0.Kind,.int .i64 v_0.N,.str v_0.S.b,sF 4 v_0.L]),(5,.loc [.int .i64 x_2.Kind,.int .i64 x_2.N,.str x_2.S.b,sF 4 x_2.L]),(6,.loc [.int .i64 0,.int .i64 0,.str (aC.mk []).b,.sl true 4 0 []]),(7,sT 4 qR),(8,.int .i64 r1),(9,.bool LL)],[],s⟩) (fun J=>?_) ?_);rotate_left;rintro⟨qR,LL⟩)
  |((with_reducible refine dI (live:=[(3,false),(6,false),(7,false)]) (fun(Mk:(List aa))=>⟨[(3,.loc [.int .i64 v_0.Kind,.int .i64 v_0.N,.str v_0.S.b,sF 4 v_0.L]),(6,.loc [.int .i64 0,.int .i64 0,.str (aC.mk []).b,.sl true 4 0 []]),(7,sT 4 Mk)],[],s⟩) (fun J=>?_) ?_);rotate_left;rintro Mk)
  |simp -implicitDefEqProofs only[go_sem,seval])
theorem Ht{v_0 cd x_2}{s:ab}{r:aa}(h:fk v_0 cd x_2=some r):FE prog 142 [oV v_0,.str cd.b,oV x_2] s [oV r] s:=Hu ⟨r,h,rfl,rfl⟩
mutual
def aL:Nat->(List UInt8)->aK->Bool->Int->Option (aa×Int×Int)
 |0,_,_,_,_=>none
 |fuel+1,b_0,t_1,aj,bJ=>
  if t_1.Kind==0 then
   some ((aa.mk 0 0 (aC.mk []) ([]:List aa)),0,10)
  else
   if(t_1.Kind==2)||(t_1.Kind==4)then
    if decide (bJ>=64)then
     some ((aa.mk 0 0 (aC.mk []) ([]:List aa)),0,15)
    else
     if t_1.Kind==2 then
      ba (fy fuel b_0 t_1.To aj (ao (bJ+1))) fun r1=>
      some (r1.1,r1.2.1,r1.2.2)
     else
      ba (gw fuel b_0 t_1.To aj (ao (bJ+1))) fun r2=>
      some (r2.1,r2.2.1,r2.2.2)
   else
    if(t_1.Kind==3)||(t_1.Kind==5)then
     some ((aa.mk 0 0 (aC.mk []) ([]:List aa)),0,11)
    else
     oU (
      if t_1.Kind==6 then
       if t_1.S.b==(aC.mk [116,114,117,101]).b then
        some (.inl (aa.mk 1 1 (aC.mk []) ([]:List aa)))
       else
        if t_1.S.b==(aC.mk [102,97,108,115,101]).b then
         some (.inl (aa.mk 1 0 (aC.mk []) ([]:List aa)))
        else
         if t_1.S.b==(aC.mk [110,117,108,108]).b then
          some (.inl (aa.mk 0 0 (aC.mk []) ([]:List aa)))
         else
          some (.inr ((0:Int),(11:Int)))
      else
       some (.inl t_1.V)) (fun(v9:aa)=>
      oU (
       ba (cL t_1) fun r22=>
       if r22 then
        ba (iu b_0 t_1.To aj v9.N) fun r23=>
        if r23.2.2 !=0 then
         some (.inr ((0:Int),r23.2.2))
        else
         if r23.1 then
          some (.inl ((aa.mk 8 v9.N (aC.mk []) ([]:List aa)),r23.2.1))
         else
          some (.inl (v9,t_1.To))
       else
        some (.inl (v9,t_1.To))) (fun((v17,MK):aa×Int)=>
       if decide (bJ>=64)then
        some ((aa.mk 0 0 (aC.mk []) ([]:List aa)),0,15)
       else
        some (v17,MK,0))
      (fun((t20,t21):Int×Int)=>some ((aa.mk 0 0 (aC.mk []) ([]:List aa)),t20,t21)))
     (fun((t12,t13):Int×Int)=>some ((aa.mk 0 0 (aC.mk []) ([]:List aa)),t12,t13))
def fy:Nat->(List UInt8)->Int->Bool->Int->Option (aa×Int×Int)
 |0,_,_,_,_=>none
 |fuel+1,b_0,ay,aj,bJ=>
  oU (
   kU (
    iter (fun((at5,l6,n7):Int×(List aa)×Int)=>
     if decide (n7<=(b_0.length:Int))then
      ba (bD b_0 at5 aj) fun r12=>
      if r12.2 !=0 then
       some (.inr (.inr ((aa.mk 0 0 (aC.mk []) ([]:List aa)),(0:Int),r12.2)))
      else
       if r12.1.Kind==3 then
        some (.inr (.inr ((aa.mk 6 0 (aC.mk []) l6),r12.1.To,(0:Int))))
       else
        ba (aL fuel b_0 r12.1 aj bJ) fun r13=>
        if r13.2.2 !=0 then
         some (.inr (.inr ((aa.mk 0 0 (aC.mk []) ([]:List aa)),(0:Int),r13.2.2)))
        else
         aH ((l6.length+[r13.1].length)*56<=room)<|
         some (.inl (r13.2.1,l6++[r13.1],ao (n7+1)))
     else
      some (.inr (.inl ()))) (ay,([]:List aa),0)) (fun(_:Unit)=>
    some (.inl ()))
   (fun((t9,t10,t11):aa×Int×Int)=>some (.inr (t9,t10,t11)))) (fun(_:Unit)=>
   some ((aa.mk 0 0 (aC.mk []) ([]:List aa)),0,10))
  (fun((t2,t3,t4):aa×Int×Int)=>some (t2,t3,t4))
def gw:Nat->(List UInt8)->Int->Bool->Int->Option (aa×Int×Int)
 |0,_,_,_,_=>none
 |fuel+1,b_0,ay,aj,bJ=>
  oU (
   kU (
    iter (fun((at5,d6,oj,n8):Int×aa×Bool×Int)=>
     if decide (n8<=(b_0.length:Int))then
      ba (bD b_0 at5 aj) fun r13=>
      if r13.2 !=0 then
       some (.inr (.inr ((aa.mk 0 0 (aC.mk []) ([]:List aa)),(0:Int),r13.2)))
      else
       if r13.1.Kind==5 then
        if oj then
         some (.inr (.inr ((aa.mk 0 0 (aC.mk []) ([]:List aa)),(0:Int),(16:Int))))
        else
         some (.inr (.inr (d6,r13.1.To,(0:Int))))
       else
        if r13.1.Kind==0 then
         some (.inr (.inr ((aa.mk 0 0 (aC.mk []) ([]:List aa)),(0:Int),(10:Int))))
        else
         if(r13.1.Kind !=1)||(r13.1.V.Kind !=5)then
          some (.inr (.inr ((aa.mk 0 0 (aC.mk []) ([]:List aa)),(0:Int),(11:Int))))
         else
          if decide (bJ>=64)then
           some (.inr (.inr ((aa.mk 0 0 (aC.mk []) ([]:List aa)),(0:Int),(15:Int))))
          else
           ba (bD b_0 r13.1.To aj) fun r14=>
           if r14.2 !=0 then
            some (.inr (.inr ((aa.mk 0 0 (aC.mk []) ([]:List aa)),(0:Int),r14.2)))
           else
            ba (aL fuel b_0 r14.1 aj bJ) fun r15=>
            if r15.2.2 !=0 then
             some (.inr (.inr ((aa.mk 0 0 (aC.mk []) ([]:List aa)),(0:Int),r15.2.2)))
            else
             ba (dQ (!oj) 0 (b4 d6 r13.1.V.S)) fun r16=>
             ba (fk d6 r13.1.V.S r15.1) fun r17=>
             some (.inl (r15.2.1,r17,oj||(decide (r16>=0)),ao (n8+1)))
     else
      some (.inr (.inl ()))) (ay,(aa.mk 7 0 (aC.mk []) ([]:List aa)),false,0)) (fun(_:Unit)=>
    some (.inl ()))
   (fun((t10,t11,t12):aa×Int×Int)=>some (.inr (t10,t11,t12)))) (fun(_:Unit)=>
   some ((aa.mk 0 0 (aC.mk []) ([]:List aa)),0,10))
  (fun((t2,t3,t4):aa×Int×Int)=>some (t2,t3,t4))
end
def rL:IC:=
 (ag [i1 5 (.jf 8 (.t 1)),i1 8 (.aA dD),mi 9 0,mi 10 0] [0,2,3,5,8]
 (ag [i1 11 (.aA dD)] [0,2,3,5,8,11]
 (.seq (.block 0 (ag [fa 18 0 5,ld 19 1 18,bn 20 .eql 19 0,mv 17 20] [0,2,3,5,8,11,17]
 (.cond (.t 17) (ag [lm 21 4 11,st 4 8 21,mi 9 0,mi 10 10] [8,9,10]
 .ret)
 (ag [fa 23 0 5,ld 24 1 23,bn 25 .eql 24 2,mv 26 25,fg 27 26 false 0 5,lg 28 26 false 1 27,im 29 26 false .eql 28 4,po 30 26 29,mv 22 30] [0,2,3,5,8,11,22]
 (.cond (.t 22) (.seq (ag [mv 31 3,bn 32 .geq 31 64] [0,2,3,5,8,11,32]
 (.cond (.t 32) (ag [lm 33 4 11,st 4 8 33,mi 9 0,mi 10 15] [8,9,10]
 .ret)
 .skip))
 (.seq (ag [fa 34 0 5,ld 35 1 34,bn 36 .eql 35 2] [0,2,3,5,8,36]
 (.cond (.t 36) (ag [mt 37 0,fa 38 2 5,ld 39 1 38,mv 40 2,mv 41 3,bn 42 .add 41 1,Ld 43 137 37 39 40 42,ex 44 43 0,ex 45 43 1,ex 46 43 2,st 4 8 44,mv 9 45,mv 10 46] [8,9,10]
 .ret)
 .skip))
 (ag [mt 47 0,fa 48 2 5,ld 49 1 48,mv 50 2,mv 51 3,bn 52 .add 51 1,Ld 53 138 47 49 50 52,ex 54 53 0,ex 55 53 1,ex 56 53 2,st 4 8 54,mv 9 55,mv 10 56] [8,9,10]
 .ret)))
 (ag [fa 58 0 5,ld 59 1 58,bn 60 .eql 59 3,mv 61 60,fg 62 61 false 0 5,lg 63 61 false 1 62,im 64 61 false .eql 63 5,po 65 61 64,mv 57 65] [0,2,3,5,8,11,57]
 (.cond (.t 57) (ag [lm 66 4 11,st 4 8 66,mi 9 0,mi 10 11] [8,9,10]
 .ret)
 .skip)))))))
 (ag [fa 67 3 5,lm 68 4 67,i1 12 (.aA dD),st 4 12 68] [0,2,3,5,8,11,12]
 (ag [fa 69 2 5,ld 70 1 69,mv 13 70] [0,2,3,5,8,11,12,13]
 (.join [(0,true),(2,false),(3,false),(5,false),(8,false),(11,false),(12,false),(13,false)] (ag [fa 71 0 5,ld 72 1 71,bn 73 .eql 72 6] [0,2,3,5,8,11,12,13,73]
 (.cond (.t 73) (ag [fa 74 7 5,ld 75 1 74] [0,2,3,5,8,11,12,13,75]
 (.block 1 (ag [i1 78 (.bin .eql (.t 75) (.c (.str [116,114,117,101]))),mv 77 78] [0,2,3,5,8,11,12,13,75,77]
 (.cond (.t 77) (.bP none [i1 79 (.build dD [(0,1,(.c (.int .i64 1))),(1,1,(.c (.int .i64 1)))]),st 4 12 79] [0,2,3,5,8,11,12,13])
 (ag [i1 81 (.bin .eql (.t 75) (.c (.str [102,97,108,115,101]))),mv 80 81] [0,2,3,5,8,11,12,13,75,80]
 (.cond (.t 80) (.bP none [i1 82 (.build dD [(0,1,(.c (.int .i64 1)))]),st 4 12 82] [0,2,3,5,8,11,12,13])
 (ag [i1 84 (.bin .eql (.t 75) (.c (.str [110,117,108,108]))),mv 83 84] [0,2,3,5,8,11,12,13,83]
 (.cond (.t 83) (.bP none [lm 85 4 11,st 4 12 85] [0,2,3,5,8,11,12,13])
 (ag [lm 76 4 11,st 4 8 76,mi 9 0,mi 10 11] [8,9,10]
 .ret)))))))))
 .skip))
 (.join [(3,false),(8,false),(11,false),(12,false),(13,false)] (ag [lm 86 8 5,c1 87 126 86] [0,2,3,8,11,12,13,87]
 (.cond (.t 87) (ag [mt 89 0,mv 90 13,mv 91 2,fa 92 1 12,ld 93 1 92,Ld 94 139 89 90 91 93,jJ 88 94,ex 95 88 0,ex 96 88 1,ex 97 88 2,mv 14 95,mv 15 96,mv 16 97] [3,8,11,12,13,14,15,16]
 (.seq (ag [mv 98 16,bn 99 .neq 98 0] [3,8,11,12,13,14,15,16,99]
 (.cond (.t 99) (ag [lm 100 4 11,mv 101 16,st 4 8 100,mi 9 0,mv 10 101] [8,9,10]
 .ret)
 .skip))
 (ag [mv 102 14] [3,8,11,12,13,15,102]
 (.cond (.t 102) (ag [fa 103 1 12,ld 104 1 103,i1 105 (.build dD [(0,1,(.c (.int .i64 8))),(1,1,(.t 104))]),st 4 12 105] [3,8,11,12,15]
 (.bP none [mv 106 15,mv 13 106] [3,8,11,12,13]))
 .skip))))
 .skip))
 (.seq (ag [mv 107 3,bn 108 .geq 107 64] [8,11,12,13,108]
 (.cond (.t 108) (ag [lm 109 4 11,st 4 8 109,mi 9 0,mi 10 15] [8,9,10]
 .ret)
 .skip))
 (ag [lm 110 4 12,mv 111 13,st 4 8 110,mv 9 111,mi 10 0] [8,9,10]
 .ret)))))))))
theorem Ch:aY prog 81 112 [⟨8,false,some (4,true)⟩,⟨9,true,none⟩,⟨10,true,none⟩] rL=true:=by kernel_rfl
def rK:IC:=
 (ag [i1 8 (.aA dD),mi 9 0,mi 10 0] [0,1,2,3,8]
 (ag [i1 11 (.iJ true (.c (.sl true 4 0 [])))] [0,1,2,3,8,11]
 (.join [(8,false)] (ag [mi 12 0] [0,1,2,3,8,11,12]
 (.block 0 (.loop [(0,true),(1,false),(2,false),(3,false),(8,false),(11,false),(12,false)] (.seq (ag [mv 18 12,mv 19 0,le 20 0 19,bt 21 .leq 18 20] [0,1,2,3,8,11,12,21]
 (.cond (.t 21) .skip
 (.exit 0)))
 (.seq (.block 1 (ag [mv 25 0,mv 26 1,mv 27 2,c3 28 80 25 26 27,jJ 24 28,ex 29 24 0,ex 30 24 1,i1 13 (.aA jK),st 8 13 29,mv 14 30] [0,2,3,8,11,12,13,14]
 (.seq (ag [mv 31 14,bn 32 .neq 31 0] [0,2,3,8,11,12,13,14,32]
 (.cond (.t 32) (ag [i1 33 (.build dD []),mv 34 14,st 4 8 33,mi 9 0,mv 10 34] [8,9,10]
 .ret)
 .skip))
 (.seq (ag [fa 35 0 13,ld 36 1 35,bn 37 .eql 36 3] [0,2,3,8,11,12,13,37]
 (.cond (.t 37) (.seq (.C7 [8] 7 [mt 38 11,i1 39 (.build dD [(0,1,(.c (.int .i64 6))),(3,1,(.t 38))]),fa 40 2 13,ld 41 1 40,st 4 8 39,mv 9 41,mi 10 0] [8,9,10])
 .ret)
 .skip))
 (ag [mv 43 0,lm 44 8 13,mv 45 2,mv 46 3,Ld 47 81 43 44 45 46,jJ 42 47,ex 48 42 0,ex 49 42 1,ex 50 42 2,i1 15 (.aA dD),st 4 15 48,mv 16 49,mv 17 50] [0,2,3,8,11,12,15,16,17]
 (.seq (ag [mv 51 17,bn 52 .neq 51 0] [0,2,3,8,11,12,15,16,17,52]
 (.cond (.t 52) (ag [i1 53 (.build dD []),mv 54 17,st 4 8 53,mi 9 0,mv 10 54] [8,9,10]
 .ret)
 .skip))
 (ag [mt 55 11,lm 56 4 15,i1 57 (.bB 4 1 dD [(0,4,(.t 56))]),JA 58 4 56 55 57,mt 11 58] [0,2,3,8,11,12,16]
 (.bP none [mv 59 16,mv 1 59] [0,1,2,3,8,11,12]))))))))
 (.bP none [mv 22 12,bn 23 .add 22 1,mv 12 23] [0,1,2,3,8,11,12]))))))
 (ag [i1 60 (.build dD []),st 4 8 60,mi 9 0,mi 10 10] [8,9,10]
 .ret))))
theorem Cg:aY prog 137 61 [⟨8,false,some (4,true)⟩,⟨9,true,none⟩,⟨10,true,none⟩] rK=true:=by kernel_rfl
def uq:IC:=
 (ag [i1 8 (.aA dD),mi 9 0,mi 10 0] [0,1,2,3,8]
 (ag [i1 21 (.build dD [(0,1,(.c (.int .i64 7)))]),i1 11 (.aA dD),st 4 11 21] [0,1,2,3,8,11]
 (ag [cY 12 (.bool false)] [0,1,2,3,8,11,12]
 (.join [(8,false)] (ag [mi 13 0] [0,1,2,3,8,11,12,13]
 (.block 0 (.loop [(0,true),(1,false),(2,false),(3,false),(8,false),(11,false),(12,false),(13,false)] (.seq (ag [mv 22 13,mv 23 0,le 24 0 23,bt 25 .leq 22 24] [0,1,2,3,8,11,12,13,25]
 (.cond (.t 25) .skip
 (.exit 0)))
 (.seq (.block 1 (ag [mv 29 0,mv 30 1,mv 31 2,c3 32 80 29 30 31,jJ 28 32,ex 33 28 0,ex 34 28 1,i1 14 (.aA jK),st 8 14 33,mv 15 34] [0,2,3,8,11,12,13,14,15]
 (.seq (ag [mv 35 15,bn 36 .neq 35 0] [0,2,3,8,11,12,13,14,15,36]
 (.cond (.t 36) (ag [i1 37 (.build dD []),mv 38 15,st 4 8 37,mi 9 0,mv 10 38] [8,9,10]
 .ret)
 .skip))
 (.seq (ag [fa 39 0 14,ld 40 1 39,bn 41 .eql 40 5] [0,2,3,8,11,12,13,14,41]
 (.cond (.t 41) (.seq (ag [mv 42 12] [8,11,14,42]
 (.cond (.t 42) (ag [i1 43 (.build dD []),st 4 8 43,mi 9 0,mi 10 16] [8,9,10]
 .ret)
 .skip))
 (.seq (.C7 [8] 6 [lm 44 4 11,fa 45 2 14,ld 46 1 45,st 4 8 44,mv 9 46,mi 10 0] [8,9,10])
 .ret))
 .skip))
 (.seq (ag [fa 47 0 14,ld 48 1 47,bn 49 .eql 48 0] [0,2,3,8,11,12,13,14,49]
 (.cond (.t 49) (ag [i1 50 (.build dD []),st 4 8 50,mi 9 0,mi 10 10] [8,9,10]
 .ret)
 .skip))
 (.seq (ag [fa 51 0 14,ld 52 1 51,bn 53 .neq 52 1,mv 54 53,fg 55 54 false 3 14,fg 56 54 false 0 55,lg 57 54 false 1 56,im 58 54 false .neq 57 5,po 59 54 58] [0,2,3,8,11,12,13,14,59]
 (.cond (.t 59) (ag [i1 60 (.build dD []),st 4 8 60,mi 9 0,mi 10 11] [8,9,10]
 .ret)
 .skip))
 (.seq (ag [mv 61 3,bn 62 .geq 61 64] [0,2,3,8,11,12,13,14,62]
 (.cond (.t 62) (ag [i1 63 (.build dD []),st 4 8 63,mi 9 0,mi 10 15] [8,9,10]
 .ret)
 .skip))
 (ag [mv 65 0,fa 66 2 14,ld 67 1 66,mv 68 2,c3 69 80 65 67 68,jJ 64 69,ex 70 64 0,ex 71 64 1,i1 16 (.aA jK),st 8 16 70,mv 17 71] [0,2,3,8,11,12,13,14,16,17]
 (.seq (ag [mv 72 17,bn 73 .neq 72 0] [0,2,3,8,11,12,13,14,16,17,73]
 (.cond (.t 73) (ag [i1 74 (.build dD []),mv 75 17,st 4 8 74,mi 9 0,mv 10 75] [8,9,10]
 .ret)
 .skip))
 (ag [mv 77 0,lm 78 8 16,mv 79 2,mv 80 3,Ld 81 81 77 78 79 80,jJ 76 81,ex 82 76 0,ex 83 76 1,ex 84 76 2,i1 18 (.aA dD),st 4 18 82,mv 19 83,mv 20 84] [0,2,3,8,11,12,13,14,18,19,20]
 (.seq (ag [mv 85 20,bn 86 .neq 85 0] [0,2,3,8,11,12,13,14,18,19,20,86]
 (.cond (.t 86) (ag [i1 87 (.build dD []),mv 88 20,st 4 8 87,mi 9 0,mv 10 88] [8,9,10]
 .ret)
 .skip))
 (.seq (.bP (some 7) [mv 89 12,mv 90 89,b6 91 90 false (.load 4 true (.t 11)),fg 92 90 false 3 14,fg 93 90 false 2 92,lg 94 90 false 1 93,qd2 95 90 false 82 91 94,im 96 90 false .geq 95 0,po 97 90 96,mv 12 97] [0,2,3,8,11,12,13,14,18,19])
 (ag [lm 98 4 11,fa 99 3 14,fa 100 2 99,ld 101 1 100,lm 102 4 18,c3 103 142 98 101 102,st 4 11 103] [0,2,3,8,11,12,13,19]
 (.bP none [mv 104 19,mv 1 104] [0,1,2,3,8,11,12,13]))))))))))))))
 (.bP none [mv 26 13,bn 27 .add 26 1,mv 13 27] [0,1,2,3,8,11,12,13]))))))
 (ag [i1 105 (.build dD []),st 4 8 105,mi 9 0,mi 10 10] [8,9,10]
 .ret)))))
theorem D0:aY prog 138 106 [⟨8,false,some (4,true)⟩,⟨9,true,none⟩,⟨10,true,none⟩] uq=true:=by kernel_rfl
set_option maxHeartbeats 8000000 in
theorem Aw{fuel:Nat}:(∀{b_0:(List UInt8)}{t_1:aK}{aj:Bool}{bJ:Int}{s:ab}{Q:List AV->ab->Prop},ok (aL fuel b_0 t_1 aj bJ) (fun r=>Q [oV r.1,.int .i64 r.2.1,.int .i64 r.2.2] s)->FN prog 81 [sF 1 b_0,.agg [.int .i64 t_1.Kind,.int .i64 t_1.bA,.int .i64 t_1.To,.int .i64 t_1.V.Kind,.int .i64 t_1.V.N,.str t_1.V.S.b,sF 4 t_1.V.L,.str t_1.S.b],.bool aj,.int .i64 bJ] s Q)
 /\(∀{b_0:(List UInt8)}{ay:Int}{aj:Bool}{bJ:Int}{s:ab}{Q:List AV->ab->Prop},ok (fy fuel b_0 ay aj bJ) (fun r=>Q [oV r.1,.int .i64 r.2.1,.int .i64 r.2.2] s)->FN prog 137 [sF 1 b_0,.int .i64 ay,.bool aj,.int .i64 bJ] s Q)
 /\(∀{b_0:(List UInt8)}{ay:Int}{aj:Bool}{bJ:Int}{s:ab}{Q:List AV->ab->Prop},ok (gw fuel b_0 ay aj bJ) (fun r=>Q [oV r.1,.int .i64 r.2.1,.int .i64 r.2.2] s)->FN prog 138 [sF 1 b_0,.int .i64 ay,.bool aj,.int .i64 bJ] s Q):=by
 induction fuel with
 |zero=>exact⟨by(intros;rename_i h;rw[aL]at h;exact absurd h (by rw[ok_none];exact fun h=>h)),by(intros;rename_i h;rw[fy]at h;exact absurd h (by rw[ok_none];exact fun h=>h)),by(intros;rename_i h;rw[gw]at h;exact absurd h (by rw[ok_none];exact fun h=>h))⟩
 |succ fuel ih=>
 have LW:∀{b_0:(List UInt8)}{t_1:aK}{aj:Bool}{bJ:Int}{s:ab}{r:aa×Int×Int},aL fuel b_0 t_1 aj bJ=some r->FE prog 81 [sF 1 b_0,.agg [.int .i64 t_1.Kind,.int .i64 t_1.bA,.int .i64 t_1.To,.int .i64 t_1.V.Kind,.int .i64 t_1.V.N,.str t_1.V.S.b,sF 4 t_1.V.L,.str t_1.S.b],.bool aj,.int .i64 bJ] s [oV r.1,.int .i64 r.2.1,.int .i64 r.2.2] s:=fun h=>ih.1 ⟨_,h,rfl,rfl⟩
 have Pu:∀{b_0:(List UInt8)}{ay:Int}{aj:Bool}{bJ:Int}{s:ab}{r:aa×Int×Int},fy fuel b_0 ay aj bJ=some r->FE prog 137 [sF 1 b_0,.int .i64 ay,.bool aj,.int .i64 bJ] s [oV r.1,.int .i64 r.2.1,.int .i64 r.2.2] s:=fun h=>ih.2.1 ⟨_,h,rfl,rfl⟩
 have Pv:∀{b_0:(List UInt8)}{ay:Int}{aj:Bool}{bJ:Int}{s:ab}{r:aa×Int×Int},gw fuel b_0 ay aj bJ=some r->FE prog 138 [sF 1 b_0,.int .i64 ay,.bool aj,.int .i64 bJ] s [oV r.1,.int .i64 r.2.1,.int .i64 r.2.2] s:=fun h=>ih.2.2 ⟨_,h,rfl,rfl⟩
 refine⟨?_,?_,?_⟩
 ·intro b_0 t_1 aj bJ s Q h
  refine FO Ch rfl rfl ?_
  revert h
  rw[rL,aL]
  repeat'(first
   |(with_reducible first|exact dh|refine b9 ?_ ?_|refine dT ?_|refine ax (fun _(h:fy fuel b_0 t_1.To aj (ao (bJ+1))=some _)=>Pu h) (fun r1=>?_)|refine ax (fun _(h:gw fuel b_0 t_1.To aj (ao (bJ+1))=some _)=>Pv h) (fun r2=>?_)|refine ax (fun _(h:cL t_1=some _)=>sq h) (fun r22=>?_)|refine ax (fun _(h:iu b_0 t_1.To aj v9.N=some _)=>Hv h) (fun r23=>?_))
   |((with_reducible refine bV (live:=[(0,true),(2,false),(3,false),(5,false),(8,false),(11,false),(12,false),(13,false)]) (fun(v9:aa)=>⟨[(0,sF 1 b_0),(2,.bool aj),(3,.int .i64 bJ),(5,.loc [.int .i64 t_1.Kind,.int .i64 t_1.bA,.int .i64 t_1.To,.int .i64 t_1.V.Kind,.int .i64 t_1.V.N,.str t_1.V.S.b,sF 4 t_1.V.L,.str t_1.S.b]),(8,.loc [.int .i64 0,.int .i64 0,.str (aC.mk []).b,.sl true 4 0 []]),(11,.loc [.int .i64 0,.int .i64 0,.str (aC.mk []).b,.sl true 4 0 []]),(12,.loc [.int .i64 v9.Kind,.int .i64 v9.N,.str v9.S.b,sF 4 v9.L]),(13,.int .i64 t_1.To)],[],s⟩) (fun J=>?_) ?_);rotate_left;rintro v9)
   |((with_reducible refine bV (live:=[(3,false),(8,false),(11,false),(12,false),(13,false)]) (fun((v17,MK):aa×Int)=>⟨[(3,.int .i64 bJ),(8,.loc [.int .i64 0,.int .i64 0,.str (aC.mk []).b,.sl true 4 0 []]),(11,.loc [.int .i64 0,.int .i64 0,.str (aC.mk []).b,.sl true 4 0 []]),(12,.loc [.int .i64 v17.Kind,.int .i64 v17.N,.str v17.S.b,sF 4 v17.L]),(13,.int .i64 MK)],[],s⟩) (fun J=>?_) ?_);rotate_left;rintro⟨v17,MK⟩)
   |simp -implicitDefEqProofs only[go_sem,seval])
 ·intro b_0 ay aj bJ s Q h
  refine FO Cg rfl rfl ?_
  revert h
  rw[rK,fy]
  repeat'(first
   |(with_reducible first|exact dh|refine b9 ?_ ?_|refine dT ?_|refine ax (fun _(h:bD b_0 at5 aj=some _)=>gF h) (fun r12=>?_)|refine ax (fun _(h:aL fuel b_0 r12.1 aj bJ=some _)=>LW h) (fun r13=>?_))
   |((with_reducible refine ch (fun((at5,l6,n7):Int×(List aa)×Int)=>⟨[(0,sF 1 b_0),(1,.int .i64 at5),(2,.bool aj),(3,.int .i64 bJ),(8,.loc [.int .i64 0,.int .i64 0,.str (aC.mk []).b,.sl true 4 0 []]),(11,sT 4 l6),(12,.int .i64 n7)],[],s⟩) ?_ ?_);(first|exact rfl|simp -implicitDefEqProofs only[go_sem,seval]);rintro J ⟨at5,l6,n7⟩)
   |((with_reducible refine bV (fun(_:Unit)=>⟨[(8,.loc [.int .i64 0,.int .i64 0,.str (aC.mk []).b,.sl true 4 0 []])],[],s⟩) (fun J=>?_) ?_);rotate_left;rintro _)
   |simp -implicitDefEqProofs only[go_sem,seval])
 ·intro b_0 ay aj bJ s Q h
  refine FO D0 rfl rfl ?_
  revert h
  rw[uq,gw]
  repeat'(first
   |(with_reducible first|exact dh|refine b9 ?_ ?_|refine dT ?_|refine ax (fun _(h:bD b_0 at5 aj=some _)=>gF h) (fun r13=>?_)|refine ax (fun _(h:bD b_0 r13.1.To aj=some _)=>gF h) (fun r14=>?_)|refine ax (fun _(h:aL fuel b_0 r14.1 aj bJ=some _)=>LW h) (fun r15=>?_)|refine c8 rfl (fun _(h:b4 d6 r13.1.V.S=some _)=>od h) (fun _=>rfl) (fun r16=>?_)|refine ax (fun _(h:fk d6 r13.1.V.S r15.1=some _)=>Ht h) (fun r17=>?_))
   |((with_reducible refine ch (fun((at5,d6,oj,n8):Int×aa×Bool×Int)=>⟨[(0,sF 1 b_0),(1,.int .i64 at5),(2,.bool aj),(3,.int .i64 bJ),(8,.loc [.int .i64 0,.int .i64 0,.str (aC.mk []).b,.sl true 4 0 []]),(11,.loc [.int .i64 d6.Kind,.int .i64 d6.N,.str d6.S.b,sF 4 d6.L]),(12,.bool oj),(13,.int .i64 n8)],[],s⟩) ?_ ?_);(first|exact rfl|simp -implicitDefEqProofs only[go_sem,seval]);rintro J ⟨at5,d6,oj,n8⟩)
   |((with_reducible refine bV (fun(_:Unit)=>⟨[(8,.loc [.int .i64 0,.int .i64 0,.str (aC.mk []).b,.sl true 4 0 []])],[],s⟩) (fun J=>?_) ?_);rotate_left;rintro _)
   |simp -implicitDefEqProofs only[go_sem,seval])
theorem C5{fuel:Nat}:∀{b_0:(List UInt8)}{t_1:aK}{aj:Bool}{bJ:Int}{s:ab}{Q:List AV->ab->Prop},ok (aL fuel b_0 t_1 aj bJ) (fun r=>Q [oV r.1,.int .i64 r.2.1,.int .i64 r.2.2] s)->FN prog 81 [sF 1 b_0,.agg [.int .i64 t_1.Kind,.int .i64 t_1.bA,.int .i64 t_1.To,.int .i64 t_1.V.Kind,.int .i64 t_1.V.N,.str t_1.V.S.b,sF 4 t_1.V.L,.str t_1.S.b],.bool aj,.int .i64 bJ] s Q:=Aw.1
theorem C4{fuel:Nat}{b_0 t_1 aj bJ}{s:ab}{r:aa×Int×Int}(h:aL fuel b_0 t_1 aj bJ=some r):FE prog 81 [sF 1 b_0,.agg [.int .i64 t_1.Kind,.int .i64 t_1.bA,.int .i64 t_1.To,.int .i64 t_1.V.Kind,.int .i64 t_1.V.N,.str t_1.V.S.b,sF 4 t_1.V.L,.str t_1.S.b],.bool aj,.int .i64 bJ] s [oV r.1,.int .i64 r.2.1,.int .i64 r.2.2] s:=C5 ⟨r,h,rfl,rfl⟩
def dP(b_0:(List UInt8))(ay:Int)(aj:Bool):Option (aa×Int×Int):=
 ba (bD b_0 ay aj) fun r1=>
 if r1.2 !=0 then
  some ((aa.mk 0 0 (aC.mk []) ([]:List aa)),0,r1.2)
 else
  ba (aL FP b_0 r1.1 aj 0) fun r2=>
  some (r2.1,r2.2.1,r2.2.2)
def rJ:IC:=
 (ag [i1 6 (.aA dD),mi 7 0,mi 8 0] [0,1,2,6]
 (ag [mv 12 0,mv 13 1,mv 14 2,c3 15 80 12 13 14,jJ 11 15,ex 16 11 0,ex 17 11 1,i1 9 (.aA jK),st 8 9 16,mv 10 17] [0,2,6,9,10]
 (.seq (ag [mv 18 10,bn 19 .neq 18 0] [0,2,6,9,10,19]
 (.cond (.t 19) (ag [i1 20 (.build dD []),mv 21 10,st 4 6 20,mi 7 0,mv 8 21] [6,7,8]
 .ret)
 .skip))
 (ag [mt 22 0,lm 23 8 9,mv 24 2,i1 25 (.call 81 [(.t 22),(.t 23),(.t 24),(.c (.int .i64 0))]),ex 26 25 0,ex 27 25 1,ex 28 25 2,st 4 6 26,mv 7 27,mv 8 28] [6,7,8]
 .ret))))
theorem Cf:aY prog 39 29 [⟨6,false,some (4,true)⟩,⟨7,true,none⟩,⟨8,true,none⟩] rJ=true:=by kernel_rfl
theorem C3{b_0 ay aj}{s:ab}{Q:List AV->ab->Prop}:ok (dP b_0 ay aj) (fun r=>Q [oV r.1,.int .i64 r.2.1,.int .i64 r.2.2] s)->FN prog 39 [sF 1 b_0,.int .i64 ay,.bool aj] s Q:=by
 intro h
 refine FO Cf rfl rfl ?_
 revert h
 rw[rJ,dP]
 repeat'(first
  |(with_reducible first|exact dh|refine b9 ?_ ?_|refine dT ?_|refine ax (fun _(h:bD b_0 ay aj=some _)=>gF h) (fun r1=>?_)|refine ax (fun _(h:aL FP b_0 r1.1 aj 0=some _)=>C4 h) (fun r2=>?_))
  |simp -implicitDefEqProofs only[go_sem,seval])
theorem C2{b_0 ay aj}{s:ab}{r:aa×Int×Int}(h:dP b_0 ay aj=some r):FE prog 39 [sF 1 b_0,.int .i64 ay,.bool aj] s [oV r.1,.int .i64 r.2.1,.int .i64 r.2.2] s:=C3 ⟨r,h,rfl,rfl⟩
def jC(v_0:aa)(cd:aC):Option (aa×Bool):=
 ba (b4 v_0 cd) fun r1=>
 if decide (r1<0)then
  some ((aa.mk 0 0 (aC.mk []) ([]:List aa)),false)
 else
  if r1==(ao ((v_0.L.length:Int) -1))then
   some ((aa.mk 0 0 (aC.mk []) ([]:List aa)),true)
  else
   aH (0<=ao (r1+1)/\ao (r1+1)<v_0.L.length)<|
   some (ix v_0.L (ao (r1+1)),true)
def wE:IC:=
 (ag [i1 2 (.jf 4 (.t 0)),i1 4 (.aA dD),cY 5 (.bool false)] [1,2,4]
 (ag [lm 7 4 2,mv 8 1,c2 9 82 7 8,mv 6 9] [2,4,6]
 (.seq (ag [mv 10 6,bn 11 .lss 10 0] [2,4,6,11]
 (.cond (.t 11) (ag [i1 12 (.build dD []),st 4 4 12,cY 5 (.bool false)] [4,5]
 .ret)
 .skip))
 (.seq (ag [mv 13 6,fa 14 3 2,ld 15 1 14,le 16 0 15,bn 17 .sub 16 1,bt 18 .eql 13 17] [2,4,6,18]
 (.cond (.t 18) (ag [i1 19 (.build dD []),st 4 4 19,cY 5 (.bool true)] [4,5]
 .ret)
 .skip))
 (ag [fa 20 3 2,ld 21 1 20,mv 22 6,bn 23 .add 22 1,ia 24 CS 21 23,lm 25 4 24,st 4 4 25,cY 5 (.bool true)] [4,5]
 .ret)))))
theorem GC:aY prog 40 26 [⟨4,false,some (4,true)⟩,⟨5,true,none⟩] wE=true:=by kernel_rfl
theorem Hs{v_0 cd}{s:ab}{Q:List AV->ab->Prop}:ok (jC v_0 cd) (fun r=>Q [oV r.1,.bool r.2] s)->FN prog 40 [oV v_0,.str cd.b] s Q:=by
 intro h
 refine FO GC rfl rfl ?_
 revert h
 rw[wE,jC]
 repeat'(first
  |with_reducible refine ax (fun _(h:b4 v_0 cd=some _)=>od h) (fun r1=>?_)
  |simp -implicitDefEqProofs only[go_sem,seval])
theorem Hr{v_0 cd}{s:ab}{r:aa×Bool}(h:jC v_0 cd=some r):FE prog 40 [oV v_0,.str cd.b] s [oV r.1,.bool r.2] s:=Hs ⟨r,h,rfl,rfl⟩
def iV(b_0:(List UInt8)):Option (aa×Bool):=
 oU (
  kU (
   iter (fun(k4:Int)=>
    if decide (k4>=0)then
     oU (
      ba (fA b_0 k4) fun r13=>
      aH ((!(!r13))=true->0<=k4/\k4<=ao (k4+7)/\ao (k4+7)<=b_0.length)<|
      if(!r13)||(!((aC.mk (part b_0 k4 (ao (k4+7)))).b==(aC.mk [116,114,97,105,108,101,114]).b))then
       some (.inl ())
      else
       ba (dP b_0 (ao (k4+7)) true) fun r14=>
       ba (jC r14.1 (aC.mk [82,111,111,116])) fun r15=>
       if((r14.2.2==0)&&(r14.1.Kind==7))&&(r15.1.Kind==8)then
        some (.inr (r14.1,true))
       else
        some (.inl ())) (fun(_:Unit)=>
      some (.inl (ao (k4 -1))))
     (fun((t11,t12):aa×Bool)=>some (.inr (.inr (t11,t12))))
    else
     some (.inr (.inl ()))) (ao ((b_0.length:Int) -7))) (fun(_:Unit)=>
   some (.inl ()))
  (fun((t6,t7):aa×Bool)=>some (.inr (t6,t7)))) (fun(_:Unit)=>
  some ((aa.mk 0 0 (aC.mk []) ([]:List aa)),false))
 (fun((t2,t3):aa×Bool)=>some (t2,t3))
def oR:IC:=
 (ag [i1 2 (.aA dD),cY 3 (.bool false)] [0,2]
 (.join [(2,false)] (ag [mv 10 0,le 11 0 10,bn 12 .sub 11 7,mv 4 12] [0,2,4]
 (.block 0 (.loop [(0,true),(2,false),(4,false)] (.seq (ag [mv 13 4,bn 14 .geq 13 0] [0,2,4,14]
 (.cond (.t 14) .skip
 (.exit 0)))
 (.join [(0,true),(2,false),(4,false)] (.block 1 (.seq (ag [mv 17 0,mv 18 4,c2 19 38 17 18,no 20 19,mv 21 20,bK 22 0 21 false,bK 23 4 21 false,bK 24 4 21 false,im 25 21 false .add 24 7,b6 26 21 false (.slice 1 (.t 22) (some (.t 23)) (some (.t 25)) none),b6 27 21 false (.eP (.t 26)),b6 28 21 false (.bin .neq (.t 27) (.c (.str [116,114,97,105,108,101,114]))),po 29 21 28] [0,2,4,29]
 (.cond (.t 29) (.exit 1)
 .skip))
 (ag [mv 31 0,mv 32 4,bn 33 .add 32 7,i1 34 (.call 39 [(.t 31),(.t 33),(.c (.bool true))]),jJ 30 34,ex 35 30 0,ex 36 30 1,ex 37 30 2,i1 5 (.aA dD),st 4 5 35,mv 6 36,mv 7 37] [0,2,4,5,7]
 (ag [lm 39 4 5,i1 40 (.call 40 [(.t 39),(.c (.str [82,111,111,116]))]),jJ 38 40,ex 41 38 0,ex 42 38 1,i1 8 (.aA dD),st 4 8 41,mv 9 42] [0,2,4,5,7,8]
 (ag [mv 43 7,bn 44 .eql 43 0,mv 45 44,fg 46 45 true 0 5,lg 47 45 true 1 46,im 48 45 true .eql 47 7,pf 49 45 48,mv 50 49,fg 51 50 true 0 8,lg 52 50 true 1 51,im 53 50 true .eql 52 8,pf 54 50 53] [0,2,4,5,54]
 (.cond (.t 54) (ag [lm 55 4 5,st 4 2 55,cY 3 (.bool true)] [2,3]
 .ret)
 .skip))))))
 (.bP none [mv 15 4,bn 16 .sub 15 1,mv 4 16] [0,2,4]))))))
 (ag [i1 56 (.build dD []),st 4 2 56,cY 3 (.bool false)] [2,3]
 .ret)))
theorem yg:aY prog 13 57 [⟨2,false,some (4,true)⟩,⟨3,true,none⟩] oR=true:=by kernel_rfl
theorem yE{b_0}{s:ab}{Q:List AV->ab->Prop}:ok (iV b_0) (fun r=>Q [oV r.1,.bool r.2] s)->FN prog 13 [sF 1 b_0] s Q:=by
 intro h
 refine FO yg rfl rfl ?_
 revert h
 rw[oR,iV]
 repeat'(first
  |(with_reducible first|exact dh|refine b9 ?_ ?_|refine dT ?_|refine ax (fun _(h:fA b_0 k4=some _)=>Ax h) (fun r13=>?_)|refine ax (fun _(h:dP b_0 (ao (k4+7)) true=some _)=>C2 h) (fun r14=>?_)|refine ax (fun _(h:jC r14.1 (aC.mk [82,111,111,116])=some _)=>Hr h) (fun r15=>?_))
  |((with_reducible refine bV (live:=[(0,true),(2,false),(4,false)]) (fun(_:Unit)=>⟨[(0,sF 1 b_0),(2,.loc [.int .i64 0,.int .i64 0,.str (aC.mk []).b,.sl true 4 0 []]),(4,.int .i64 k4)],[],s⟩) (fun J=>?_) ?_);rotate_left;rintro _)
  |((with_reducible refine ch (fun(k4:Int)=>⟨[(0,sF 1 b_0),(2,.loc [.int .i64 0,.int .i64 0,.str (aC.mk []).b,.sl true 4 0 []]),(4,.int .i64 k4)],[],s⟩) ?_ ?_);(first|exact rfl|simp -implicitDefEqProofs only[go_sem,seval]);rintro J k4)
  |((with_reducible refine bV (live:=[(2,false)]) (fun(_:Unit)=>⟨[(2,.loc [.int .i64 0,.int .i64 0,.str (aC.mk []).b,.sl true 4 0 []])],[],s⟩) (fun J=>?_) ?_);rotate_left;rintro _)
  |simp -implicitDefEqProofs only[go_sem,seval])
theorem yD{b_0}{s:ab}{r:aa×Bool}(h:iV b_0=some r):FE prog 13 [sF 1 b_0] s [oV r.1,.bool r.2] s:=yE ⟨r,h,rfl,rfl⟩
def cM:Nat->aa->aa->Option (Int)
 |0,_,_=>none
 |fuel+1,a_0,b_1=>
  if(decide (a_0.Kind<b_1.Kind))||((a_0.Kind==b_1.Kind)&&((decide (a_0.N<b_1.N))||((a_0.N==b_1.N)&&(Op.bytesLess a_0.S.b b_1.S.b))))then
   some (-1)
  else
   if((a_0.Kind !=b_1.Kind)||(a_0.N !=b_1.N))||(!(a_0.S.b==b_1.S.b))then
    some 1
   else
    oU (
     kU (
      iter (fun(k4:Int)=>
       if(decide (k4<(a_0.L.length:Int)))&&(decide (k4<(b_1.L.length:Int)))then
        aH (0<=k4/\k4<a_0.L.length)<|
        aH (0<=k4/\k4<b_1.L.length)<|
        ba (cM fuel (ix a_0.L k4) (ix b_1.L k4)) fun r8=>
        if r8 !=0 then
         some (.inr (.inr r8))
        else
         some (.inl (ao (k4+1)))
       else
        some (.inr (.inl ()))) 0) (fun(_:Unit)=>
      some (.inl ()))
     (fun(t7:Int)=>some (.inr t7))) (fun(_:Unit)=>
     if decide ((a_0.L.length:Int)<(b_1.L.length:Int))then
      some (-1)
     else
      if decide ((a_0.L.length:Int)>(b_1.L.length:Int))then
       some 1
      else
       some 0)
    (fun(t3:Int)=>some t3)
def oQ:IC:=
 (ag [i1 2 (.jf 4 (.t 0)),i1 3 (.jf 4 (.t 1)),mi 4 0] [2,3]
 (.seq (.block 0 (ag [fa 8 0 2,ld 9 1 8,fa 10 0 3,ld 11 1 10,bt 12 .lss 9 11,mv 13 12,fg 14 13 false 0 2,lg 15 13 false 1 14,fg 16 13 false 0 3,lg 17 13 false 1 16,sm 18 13 false .eql 15 17,bK 19 18 13 false,fg 20 19 true 1 2,lg 21 19 true 1 20,fg 22 19 true 1 3,lg 23 19 true 1 22,sm 24 19 true .lss 21 23,bK 25 24 19 true,fg 26 25 false 1 2,lg 27 25 false 1 26,fg 28 25 false 1 3,lg 29 25 false 1 28,sm 30 25 false .eql 27 29,bK 31 30 25 false,fg 32 31 true 2 2,lg 33 31 true 1 32,fg 34 31 true 2 3,lg 35 31 true 1 34,sm 36 31 true .lss 33 35,b6 37 25 false (.pick (.t 31) (.t 36) (.c (.bool false))),b6 38 19 true (.pick (.t 25) (.c (.bool true)) (.t 37)),b6 39 13 false (.pick (.t 19) (.t 38) (.c (.bool false))),po 40 13 39,mv 7 40] [2,3,7]
 (.cond (.t 7) (ag [mi 4 (-1)] [4]
 .ret)
 (ag [fa 42 0 2,ld 43 1 42,fa 44 0 3,ld 45 1 44,bt 46 .neq 43 45,mv 47 46,fg 48 47 false 1 2,lg 49 47 false 1 48,fg 50 47 false 1 3,lg 51 47 false 1 50,sm 52 47 false .neq 49 51,po 53 47 52,mv 54 53,fg 55 54 false 2 2,lg 56 54 false 1 55,fg 57 54 false 2 3,lg 58 54 false 1 57,sm 59 54 false .neq 56 58,po 60 54 59,mv 41 60] [2,3,41]
 (.cond (.t 41) (ag [mi 4 1] [4]
 .ret)
 .skip)))))
 (.join [(2,false),(3,false)] (ag [mi 5 0] [2,3,5]
 (.block 1 (.loop [(2,false),(3,false),(5,false)] (.seq (ag [mv 61 5,fa 62 3 2,ld 63 1 62,le 64 0 63,bt 65 .lss 61 64,mv 66 65,bK 67 5 66 true,fg 68 66 true 3 3,lg 69 66 true 1 68,b6 70 66 true (.len 0 (.t 69)),sm 71 66 true .lss 67 70,pf 72 66 71] [2,3,5,72]
 (.cond (.t 72) .skip
 (.exit 1)))
 (.seq (.block 2 (.seq (.bP (some 12) [fa 75 3 2,ld 76 1 75,mv 77 5,ia 78 CS 76 77,lm 79 4 78,fa 80 3 3,ld 81 1 80,mv 82 5,ia 83 CS 81 82,lm 84 4 83,c2 85 41 79 84,mv 6 85] [2,3,5,6])
 (ag [mv 86 6,bn 87 .neq 86 0] [2,3,5,6,87]
 (.cond (.t 87) (ag [mv 88 6,mv 4 88] [4]
 .ret)
 .skip))))
 (.bP none [mv 73 5,bn 74 .add 73 1,mv 5 74] [2,3,5]))))))
 (.seq (ag [fa 89 3 2,ld 90 1 89,le 91 0 90,fa 92 3 3,ld 93 1 92,le 94 0 93,bt 95 .lss 91 94] [2,3,95]
 (.cond (.t 95) (ag [mi 4 (-1)] [4]
 .ret)
 .skip))
 (.seq (ag [fa 96 3 2,ld 97 1 96,le 98 0 97,fa 99 3 3,ld 100 1 99,le 101 0 100,bt 102 .gtr 98 101] [102]
 (.cond (.t 102) (ag [mi 4 1] [4]
 .ret)
 .skip))
 (ag [mi 4 0] [4]
 .ret))))))
theorem yf:aY prog 41 103 [⟨4,true,none⟩] oQ=true:=by kernel_rfl
theorem yC{fuel:Nat}:∀{a_0:aa}{b_1:aa}{s:ab}{Q:List AV->ab->Prop},ok (cM fuel a_0 b_1) (fun r=>Q [.int .i64 r] s)->FN prog 41 [oV a_0,oV b_1] s Q:=by
 induction fuel with
 |zero=>intros;rename_i h;rw[cM]at h;exact absurd h (by rw[ok_none];exact fun h=>h)
 |succ fuel ih=>
 have adS:∀{a_0:aa}{b_1:aa}{s:ab}{r:Int},cM fuel a_0 b_1=some r->FE prog 41 [oV a_0,oV b_1] s [.int .i64 r] s:=fun h=>ih ⟨_,h,rfl,rfl⟩
 intro a_0 b_1 s Q
 intro h
 refine FO yf rfl rfl ?_
 revert h
 rw[oQ,cM]
 repeat'(first
  |(with_reducible first|exact dh|refine b9 ?_ ?_|refine dT ?_|refine dF (fun _(h:cM fuel (ix a_0.L k4) (ix b_1.L k4)=some _)=>adS h) (fun _=>rfl) (fun r8=>?_))
  |((with_reducible refine ch (fun(k4:Int)=>⟨[(2,.loc [.int .i64 a_0.Kind,.int .i64 a_0.N,.str a_0.S.b,sF 4 a_0.L]),(3,.loc [.int .i64 b_1.Kind,.int .i64 b_1.N,.str b_1.S.b,sF 4 b_1.L]),(5,.int .i64 k4)],[],s⟩) ?_ ?_);(first|exact rfl|simp -implicitDefEqProofs only[go_sem,seval]);rintro J k4)
  |((with_reducible refine bV (fun(_:Unit)=>⟨[(2,.loc [.int .i64 a_0.Kind,.int .i64 a_0.N,.str a_0.S.b,sF 4 a_0.L]),(3,.loc [.int .i64 b_1.Kind,.int .i64 b_1.N,.str b_1.S.b,sF 4 b_1.L])],[],s⟩) (fun J=>?_) ?_);rotate_left;rintro _)
  |simp -implicitDefEqProofs only[go_sem,seval])
theorem yB{fuel:Nat}{a_0 b_1}{s:ab}{r:Int}(h:cM fuel a_0 b_1=some r):FE prog 41 [oV a_0,oV b_1] s [.int .i64 r] s:=yC ⟨r,h,rfl,rfl⟩
def mZ(a_0:aa)(b_1:aa):Option (Bool):=
 ba (cM FP a_0 b_1) fun r1=>
 some (r1==0)
def uk:IC:=
 (ag [i1 2 (.jf 4 (.t 0)),i1 3 (.jf 4 (.t 1)),cY 4 (.bool false)] [2,3]
 (ag [lm 5 4 2,lm 6 4 3,c2 7 41 5 6,bn 8 .eql 7 0,mv 4 8] [4]
 .ret))
theorem DZ:aY prog 14 9 [⟨4,true,none⟩] uk=true:=by kernel_rfl
theorem Eo{a_0 b_1}{s:ab}{Q:List AV->ab->Prop}:ok (mZ a_0 b_1) (fun r=>Q [.bool r] s)->FN prog 14 [oV a_0,oV b_1] s Q:=by
 intro h
 refine FO DZ rfl rfl ?_
 revert h
 rw[uk,mZ]
 repeat'(first
  |with_reducible refine ax (fun _(h:cM FP a_0 b_1=some _)=>yB h) (fun r1=>?_)
  |simp -implicitDefEqProofs only[go_sem,seval])
theorem En{a_0 b_1}{s:ab}{r:Bool}(h:mZ a_0 b_1=some r):FE prog 14 [oV a_0,oV b_1] s [.bool r] s:=Eo ⟨r,h,rfl,rfl⟩
end Go.AB
end
section
namespace Go.AB
open Go
theorem PH{X Y α:Type}{o:Option (X⊕Y)}{z:X⊕Y}{F:X->Option α}{G:Y->Option α}{r:Option α}(h:o=some z)(k:jy F G z=r):oU o F G=r:=by
 rw[h]
 cases z<;>exact k
theorem Ka{X Y α:Type}{o:Option (X⊕Y)}{z:X⊕Y}{F:X->Option α}{G:Y->Option α}{r:Option α}(h:o=some z)(k:jy F G z=r):kU o F G=r:=by
 rw[h]
 cases z<;>exact k
theorem uN{X Y α:Type}{o:Option (X⊕Y)}{F:X->Option α}{G:Y->Option α}{P:α->Prop}(Q:X⊕Y->Prop)(h:∃z,o=some z/\Q z)(k:∀z,Q z->∃x,jy F G z=some x/\P x):∃x,oU o F G=some x/\P x:=by
 obtain⟨z,hz,hq⟩:=h
 obtain⟨x,hx,hp⟩:=k z hq
 exact⟨x,PH hz hx,hp⟩
theorem pK{X Y α:Type}{o:Option (X⊕Y)}{F:X->Option α}{G:Y->Option α}{P:α->Prop}(Q:X⊕Y->Prop)(h:∃z,o=some z/\Q z)(k:∀z,Q z->∃x,jy F G z=some x/\P x):∃x,kU o F G=some x/\P x:=by
 obtain⟨z,hz,hq⟩:=h
 obtain⟨x,hx,hp⟩:=k z hq
 exact⟨x,Ka hz hx,hp⟩
theorem OT{X α:Type}{o:Option X}{F:X->Option α}{P:α->Prop}(Q:X->Prop)(h:∃z,o=some z/\Q z)(k:∀z,Q z->∃x,F z=some x/\P x):∃x,ba o F=some x/\P x:=by
 obtain⟨z,hz,hq⟩:=h
 obtain⟨x,hx,hp⟩:=k z hq
 exact⟨x,ah hz hx,hp⟩
theorem TT{X α:Type}{o:Option X}{F:X->Option α}{P:α->Prop}(Q:X->Prop)(h:∃z,o=some z/\Q z)(k:∀z,Q z->∃x,F z=some x/\P x):∃x,jn o F=some x/\P x:=by
 obtain⟨z,hz,hq⟩:=h
 obtain⟨x,hx,hp⟩:=k z hq
 exact⟨x,eu hz hx,hp⟩
theorem NP{α:Type}{g:Bool}{z:α}{o:Option α}(hg:g=false):dQ g z o=some z:=by rw[hg,Be]
theorem nT:¬((!true)=true):=by decide
theorem nF:¬(false=true):=by decide
theorem iL(p:UInt8->Bool)(h:((List.range 256).all fun n=>p (UInt8.ofNat n))=true)(c:UInt8):p c=true:=by
 have:=List.all_eq_true.1 h c.toNat (List.mem_range.2 c.toNat_lt)
 simpa using this
def Es(c:UInt8):Bool:=((((((c.toNat:Int)==0)||((c.toNat:Int)==9))||((c.toNat:Int)==10))||((c.toNat:Int)==12))||((c.toNat:Int)==13))||((c.toNat:Int)==32)
def MU(c:UInt8):Bool:=decide (Lib.indexByte [40,41,60,62,91,93,123,125,47,37] c>=0)
def Fs(c:UInt8):Bool:=!Es c&&!MU c
def xF(c:UInt8):Int:=if(decide ((c.toNat:Int)>=48))&&(decide ((c.toNat:Int)<=57))then(c.toNat:Int) -48 else if(decide ((c.toNat:Int)>=97))&&(decide ((c.toNat:Int)<=102))then(c.toNat:Int) -87 else if(decide ((c.toNat:Int)>=65))&&(decide ((c.toNat:Int)<=70))then(c.toNat:Int) -55 else -1
theorem rY(c:UInt8):fj c=some (Es c):=rfl
theorem oc(c:UInt8):cX c=some (Es c):=of_decide_eq_true (iL (fun c=>decide (cX c=some (Es c))) (by kernel_rfl) c)
theorem PK(c:UInt8):jz c=some (MU c):=rfl
theorem vn(c:UInt8):da c=some (MU c):=of_decide_eq_true (iL (fun c=>decide (da c=some (MU c))) (by kernel_rfl) c)
theorem I8(c:UInt8):dy c=some (Fs c):=by
 unfold dy Fs
 rw[rY,PK]
 cases Es c<;>rfl
theorem yj(c:UInt8):gr c=some (xF c):=of_decide_eq_true (iL (fun c=>decide (gr c=some (xF c))) (by kernel_rfl) c)
theorem Ee(c:UInt8):db c=some (xF c):=of_decide_eq_true (iL (fun c=>decide (db c=some (xF c))) (by kernel_rfl) c)
theorem Gn(c:UInt8):-1<=xF c/\xF c<=15:=of_decide_eq_true (iL (fun c=>decide (-1<=xF c/\xF c<=15)) (by kernel_rfl) c)
theorem a8{b:List UInt8}{j:Nat}{x:UInt8}(h:b[j]? =some x):j<b.length/\ix b (j:Int)=x:=⟨(List.getElem?_eq_some_iff.1 h).1,VS h⟩
theorem c5{b:List UInt8}{j:Nat}(h:b[j]? =none):b.length<=j:=List.getElem?_eq_none_iff.1 h
theorem iX{n:Nat}(h:n<4611686018427387904):ao ((n:Int)+1)=((n+1:Nat):Int):=by rw[au (by omega) (by omega)];rfl
section
variable(b:List UInt8)
def zP:Nat->Bool->Nat->Nat
 |0,_,j=>j
 |f+1,c,j=>match b[j]? with
  |none=>j
  |some x=>if c then zP f (((x.toNat:Int)!=10)&&((x.toNat:Int)!=13)) (j+1)else if(x.toNat:Int)==37 then zP f true (j+1)else if !Es x then j else zP f false (j+1)
def Mu:Nat->Nat->Nat
 |0,j=>j
 |f+1,j=>match b[j]? with
  |none=>j
  |some x=>if Fs x then Mu f (j+1)else j
variable{b}
theorem HF:∀(f:Nat)(c:Bool)(j:Nat),j<=b.length->j<=zP b f c j/\zP b f c j<=b.length
 |0,_,j,h=>⟨Nat.le_refl _,h⟩
 |f+1,c,j,h=>by
  rw[zP]
  cases hx:b[j]? with
  |none=>exact⟨Nat.le_refl _,h⟩
  |some x=>
   have hj:=(a8 hx).1
   have ih:=fun c=>HF f c (j+1) (by omega)
   simp only
   split
   ·have:=ih (((x.toNat:Int)!=10)&&((x.toNat:Int)!=13));omega
   ·split
    ·have:=ih true;omega
    ·split
     ·omega
     ·have:=ih false;omega
theorem Dc:∀(f:Nat)(j:Nat),j<=b.length->j<=Mu b f j/\Mu b f j<=b.length
 |0,j,h=>⟨Nat.le_refl _,h⟩
 |f+1,j,h=>by
  rw[Mu]
  cases hx:b[j]? with
  |none=>exact⟨Nat.le_refl _,h⟩
  |some x=>
   have hj:=(a8 hx).1
   have ih:=Dc f (j+1) (by omega)
   simp only
   split<;>omega
def De(b:List UInt8)(j:Nat):Nat:=zP b b.length false j
theorem aan(hb:b.length<1152921504606846976)(k:Nat)(hk:k<=b.length):mR b (k:Int)=some (De b k:Int):=by
 have hT:=HF (b:=b) b.length false k hk
 generalize hTT:zP b b.length false k=T at hT
 have hA:De b k=T:=hTT
 rw[hA]
 unfold mR
 refine ae (by simp) (PH (z:=if T<b.length then .inr (T:Int)else .inl ()) (Ka (iter_eq (o:=if T<b.length then .inr (T:Int)else .inl ()) (fun(s:Int×Bool)=>∃j f:Nat,s.1=j/\j<=b.length/\b.length -j<=f/\zP b f s.2 j=T) (fun s=>b.length -s.1.toNat) ⟨k,b.length,rfl,hk,by omega,hTT⟩ (by simp;omega) ?_) (by by_cases h:T<b.length<;>simp[h])) ?_)
 ·rintro⟨a,c⟩ ⟨j,f,e,hj,hf,hs⟩
  have e:a=(j:Int):=e
  subst e
  cases hx:b[j]? with
  |none=>
   have hl:=c5 hx
   right
   have:T=j:=by
    cases f with
    |zero=>exact hs.symm
    |succ f=>rw[zP,hx]at hs;exact hs.symm
   have hn:¬T<b.length:=by omega
   rw[if_neg hn]
   exact ae (by simp;omega) rfl
  |some x=>
   obtain⟨hl,hi⟩:=a8 hx
   obtain⟨f,rfl⟩:∃g,f=g+1:=⟨f -1,by omega⟩
   rw[zP,hx]at hs
   simp only at hs
   have hw:=iX (n:=j) (by omega)
   cases c with
   |true=>
    left
    rw[if_pos rfl]at hs
    exact⟨_,al (by simp;omega) (aN (af (by omega) (al rfl rfl)) rfl),⟨j+1,f,hw,by omega,by omega,by rw[<-hi]at hs;exact hs⟩,by show b.length -(ao ((j:Int)+1)).toNat<b.length -((j:Int)).toNat;rw[hw];omega⟩
   |false=>
    rw[if_neg (by decide)]at hs
    by_cases h37:((x.toNat:Int)==37)=true
    ·left
     rw[if_pos h37]at hs
     exact⟨_,al (by simp;omega) (aN (af (by omega) (ae (by decide) (al (by rw[hi];exact h37) rfl))) rfl),⟨j+1,f,hw,by omega,by omega,hs⟩,by show b.length -(ao ((j:Int)+1)).toNat<b.length -((j:Int)).toNat;rw[hw];omega⟩
    ·rw[if_neg h37]at hs
     by_cases hsp:(!Es x)=true
     ·right
      rw[if_pos hsp]at hs
      subst hs
      rw[if_pos hl]
      exact al (by simp;omega) (aN (af (by omega) (ae (by decide) (ae (by rw[hi];exact h37) (ah (rY _) (al (by rw[hi];exact hsp) rfl))))) rfl)
     ·left
      rw[if_neg hsp]at hs
      exact⟨_,al (by simp;omega) (aN (af (by omega) (ae (by decide) (ae (by rw[hi];exact h37) (ah (rY _) (ae (by rw[hi];exact hsp) rfl))))) rfl),⟨j+1,f,hw,by omega,by omega,hs⟩,by show b.length -(ao ((j:Int)+1)).toNat<b.length -((j:Int)).toNat;rw[hw];omega⟩
 ·by_cases h:T<b.length
  ·rw[if_pos h];rfl
  ·rw[if_neg h,show T=b.length by omega];rfl
theorem Uv(hb:b.length<1152921504606846976)(k:Nat)(hk:k<=b.length):jo b (k:Int)=some (De b k:Int):=by
 have hT:=HF (b:=b) b.length false k hk
 generalize hTT:zP b b.length false k=T at hT
 have hA:De b k=T:=hTT
 rw[hA]
 unfold jo
 refine ae (by simp) (PH (z:=if T<b.length then .inr (T:Int)else .inl ()) (Ka (iter_eq (o:=if T<b.length then .inr (T:Int)else .inl ()) (fun(s:Int)=>∃j f:Nat,s=j/\j<=b.length/\b.length -j<=f/\zP b f false j=T) (fun s=>b.length -s.toNat) ⟨k,b.length,rfl,hk,by omega,hTT⟩ (by simp<;>omega) ?_) (by by_cases h:T<b.length<;>simp[h])) ?_)
 ·rintro a ⟨j,f,rfl,hj,hf,hs⟩
  cases hx:b[j]? with
  |none=>
   have hl:=c5 hx
   right
   have:T=j:=by
    cases f with
    |zero=>exact hs.symm
    |succ f=>rw[zP,hx]at hs;exact hs.symm
   have hn:¬T<b.length:=by omega
   rw[if_neg hn]
   exact ae (by simp<;>omega) rfl
  |some x=>
   obtain⟨hl,hi⟩:=a8 hx
   obtain⟨f,rfl⟩:∃g,f=g+1:=⟨f -1,by omega⟩
   rw[zP,hx]at hs
   simp only at hs
   have hw:=iX (n:=j) (by omega)
   rw[if_neg (by decide)]at hs
   by_cases hsp:Es x=true
   ·have h37:¬((x.toNat:Int)==37)=true:=fun h=>by
     have:=iL (fun x=>!(Es x&&((x.toNat:Int)==37))) (by kernel_rfl) x
     rw[hsp,h]at this;cases this
    rw[if_neg h37,if_neg (by rw[hsp];decide)]at hs
    left
    exact⟨_,al (by simp<;>omega) (af (by omega) (ah (oc _) (al (by rw[hi];exact hsp) rfl))),⟨j+1,f,hw,by omega,by omega,hs⟩,by rw[hw];omega⟩
   ·by_cases h37:((x.toNat:Int)==37)=true
    ·rw[if_pos h37]at hs
     left
     have h10:(((x.toNat:Int)!=10)&&((x.toNat:Int)!=13))=true:=by
      have:(x.toNat:Int)=37:=by simpa using h37
      rw[this];rfl
     have hs':zP b (f+1) true j=T:=by rw[zP,hx];simp only[if_true];rw[h10];exact hs
     obtain⟨j2,hj2,f2,hf2,hjj,hs2,hit⟩:∃j2:Nat,j2<=b.length/\∃f2,b.length -j2<=f2/\j<j2/\zP b f2 false j2=T/\iter (fun(at7:Int)=>
      aH ((decide (at7<(b.length:Int)))=true->0<=at7/\at7<b.length)<|
      aH (((decide (at7<(b.length:Int)))&&(((ix b at7).toNat:Int)!=10))=true->0<=at7/\at7<b.length)<|
      if((decide (at7<(b.length:Int)))&&(((ix b at7).toNat:Int)!=10))&&(((ix b at7).toNat:Int)!=13)then
       some (.inl (ao (at7+1)))
      else
       some (.inr at7)) (j:Int)=some (j2:Int):=by
      obtain⟨o,h1,j2,h2,h3,f2,h4,h5,h6⟩:=dn (body:=fun(at7:Int)=>
       aH ((decide (at7<(b.length:Int)))=true->0<=at7/\at7<b.length)<|
       aH (((decide (at7<(b.length:Int)))&&(((ix b at7).toNat:Int)!=10))=true->0<=at7/\at7<b.length)<|
       if((decide (at7<(b.length:Int)))&&(((ix b at7).toNat:Int)!=10))&&(((ix b at7).toNat:Int)!=13)then
        some (.inl (ao (at7+1)))
       else
        some (.inr at7)) (s0:=(j:Int)) (fun s=>∃i f:Nat,s=i/\j<=i/\i<=b.length/\b.length -i<=f/\zP b f true i=T/\(i=j->(((x.toNat:Int)!=10)&&((x.toNat:Int)!=13))=true)) (fun s=>b.length -s.toNat)
       (fun o=>∃j2:Nat,o=(j2:Int)/\j2<=b.length/\∃f2,b.length -j2<=f2/\j<j2/\zP b f2 false j2=T) ⟨j,f+1,rfl,Nat.le_refl _,hj,by omega,hs',fun _=>h10⟩ (by simp<;>omega) (by
         rintro _ ⟨i,g,rfl,hji,hi2,hg,hsg,hh⟩
         cases hy:b[i]? with
         |none=>
          have hl2:=c5 hy
          refine⟨_,af (by simp<;>omega) (af (by simp<;>omega) (ae (by simp<;>omega) rfl)),i,rfl,by omega,g,by omega,by omega,?_⟩
          cases g with
          |zero=>exact hsg
          |succ g=>rw[zP,hy]at hsg⊢;exact hsg
         |some y=>
          obtain⟨hl2,hi3⟩:=a8 hy
          obtain⟨g,rfl⟩:∃k,g=k+1:=⟨g -1,by omega⟩
          rw[zP,hy]at hsg
          simp only[if_true]at hsg
          have hw2:=iX (n:=i) (by omega)
          by_cases hc:(((y.toNat:Int)!=10)&&((y.toNat:Int)!=13))=true
          ·rw[hc]at hsg
           refine⟨_,af (by simp<;>omega) (af (by simp<;>omega) (al (by rw[hi3,Bool.and_assoc,hc];simp<;>omega) rfl)),⟨i+1,g,hw2,by omega,by omega,by omega,hsg,fun e=>by omega⟩,?_⟩
           rw[hw2];omega
          ·refine⟨_,af (by simp<;>omega) (af (by simp<;>omega) (ae (by rw[hi3,Bool.and_assoc];simp at hc⊢;intro _;exact hc) rfl)),i,rfl,by omega,g+1,by omega,?_,?_⟩
           ·rcases Nat.lt_or_ge j i with h|h
            ·exact h
            ·have e:i=j:=by omega
             subst e
             rw[hx]at hy
             injection hy with hy
             subst hy
             exact absurd (hh rfl) hc
           ·have hcf:(((y.toNat:Int)!=10)&&((y.toNat:Int)!=13))=false:=by simpa using hc
            rw[hcf]at hsg
            have:=iL (fun y=>(((y.toNat:Int)!=10)&&((y.toNat:Int)!=13))||(Es y&&!((y.toNat:Int)==37))) (by kernel_rfl) y
            rw[hcf,Bool.false_or,Bool.and_eq_true]at this
            rw[zP,hy]
            simp only
            rw[if_neg (by decide),if_neg (by have:=this.2;simpa using this),if_neg (by rw[this.1];decide)]
            exact hsg)
      exact⟨j2,h3,f2,h4,h5,h6,by rw[h1,h2]⟩
     refine⟨(j2:Int),al (by simp<;>omega) (af (by omega) (ah (oc _) (ae (by rw[hi];exact hsp) (af (by omega) (ae (by rw[hi];simp at h37⊢;exact h37) (ah hit rfl)))))),⟨j2,f2,rfl,hj2,hf2,hs2⟩,by omega⟩
    ·rw[if_neg h37,if_pos (by simpa using hsp)]at hs
     subst hs
     right
     rw[if_pos hl]
     exact al (by simp<;>omega) (af (by omega) (ah (oc _) (ae (by rw[hi];exact hsp) (af (by omega) (al (by rw[hi];simp at h37⊢;exact h37) rfl)))))
 ·by_cases h:T<b.length
  ·rw[if_pos h];rfl
  ·rw[if_neg h,show T=b.length by omega];rfl
def p8(b:List UInt8)(j:Nat):Nat:=Mu b b.length j
theorem abn(hb:b.length<1152921504606846976)(k:Nat)(hk:k<=b.length):ir b (k:Int)=some (p8 b k:Int):=by
 have hT:=Dc (b:=b) b.length k hk
 generalize hTT:Mu b b.length k=T at hT
 have hA:p8 b k=T:=hTT
 rw[hA]
 unfold ir
 refine eu (iter_eq (o:=(T:Int)) (fun(s:Int)=>∃j f:Nat,s=j/\j<=b.length/\b.length -j<=f/\Mu b f j=T) (fun s=>b.length -s.toNat) ⟨k,b.length,rfl,hk,by omega,hTT⟩ (by simp;omega) ?_) rfl
 rintro a ⟨j,f,rfl,hj,hf,hs⟩
 cases hx:b[j]? with
 |none=>
  have hl:=c5 hx
  right
  have:T=j:=by
   cases f with
   |zero=>exact hs.symm
   |succ f=>rw[Mu,hx]at hs;exact hs.symm
  have hd:decide ((j:Int)<(b.length:Int))=false:=by simp;omega
  rw[this]
  simp only[hd,Bool.false_eq_true,false_implies,Fa,Be,bC,Bool.false_and]
  rfl
 |some x=>
  obtain⟨hl,hi⟩:=a8 hx
  obtain⟨f,rfl⟩:∃g,f=g+1:=⟨f -1,by omega⟩
  rw[Mu,hx]at hs
  simp only at hs
  have hw:=iX (n:=j) (by omega)
  have hd:decide ((j:Int)<(b.length:Int))=true:=by simp;omega
  have key:aH ((decide ((j:Int)<(b.length:Int)))=true->0<=(j:Int)/\(j:Int)<b.length) (some ())=some ():=c9 (by omega) _
  by_cases hr:Fs x=true
  ·rw[if_pos hr]at hs
   left
   refine⟨_,af (by omega) (ah (by rw[hd,kS,oc]) (af (by omega) (ah (a:=!Es x&&MU x) ?_ (al ?_ rfl)))),⟨j+1,f,hw,by omega,by omega,hs⟩,by rw[hw];omega⟩
   ·rw[hi,hd]
    have:=hr
    unfold Fs at this
    rw[Bool.and_eq_true]at this
    rw[this.1]
    exact vn x
   ·rw[hd,hi]
    have:=hr
    unfold Fs at this
    rw[Bool.and_eq_true]at this
    have e2:MU x=false:=by simpa using this.2
    rw[this.1,e2];rfl
  ·rw[if_neg hr]at hs
   subst hs
   right
   have hr':Fs x=false:=by simpa using hr
   unfold Fs at hr'
   cases hsp:Es x with
   |true=>
    refine af (by omega) (ah (by rw[hd,kS,oc]) (af (by omega) (ah (a:=false) ?_ (ae ?_ rfl))))
    ·rw[hi,hsp,hd];rfl
    ·rw[hi,hsp,hd];decide
   |false=>
    rw[hsp]at hr'
    have e2:MU x=true:=by simpa using hr'
    refine af (by omega) (ah (by rw[hd,kS,oc]) (af (by omega) (ah (a:=true) ?_ (ae ?_ rfl))))
    ·rw[hi,hsp,hd];show da x=some true;rw[vn,e2]
    ·rw[hi,hsp,hd];decide
theorem T7(hb:b.length<1152921504606846976)(B:zo)(k:Nat)(last:Bool)(hk:k<=b.length):eJ ⟨B,b,(k:Int),last⟩=some (⟨part b (k:Int) (p8 b k:Int)⟩,(decide ((p8 b k:Int)<(b.length:Int)))||last,⟨B,b,(p8 b k:Int),last⟩):=by
 have hT:=Dc (b:=b) b.length k hk
 generalize hTT:Mu b b.length k=T at hT
 have hA:p8 b k=T:=hTT
 rw[hA]
 unfold eJ
 refine eu (iter_eq (o:=(⟨B,b,(T:Int),last⟩:ak)) (fun(s:ak)=>∃j f:Nat,s=⟨B,b,(j:Int),last⟩/\j<=b.length/\b.length -j<=f/\Mu b f j=T) (fun s=>b.length -s.at_.toNat) ⟨k,b.length,rfl,hk,by omega,hTT⟩ (by simp;omega) ?_) (af ?_ rfl)
 ·rintro a ⟨j,f,rfl,hj,hf,hs⟩
  cases hx:b[j]? with
  |none=>
   have hl:=c5 hx
   right
   have:T=j:=by
    cases f with
    |zero=>exact hs.symm
    |succ f=>rw[Mu,hx]at hs;exact hs.symm
   have hd:decide ((j:Int)<(b.length:Int))=false:=by simp;omega
   rw[this]
   simp only[hd,Bool.false_eq_true,false_implies,Fa,Be,bC,Bool.false_and]
   rfl
  |some x=>
   obtain⟨hl,hi⟩:=a8 hx
   obtain⟨f,rfl⟩:∃g,f=g+1:=⟨f -1,by omega⟩
   rw[Mu,hx]at hs
   simp only at hs
   have hw:=iX (n:=j) (by omega)
   have hd:decide ((j:Int)<(b.length:Int))=true:=by simp;omega
   have hrx:dy (ix b (j:Int))=some (Fs x):=by rw[hi];exact I8 x
   by_cases hr:Fs x=true
   ·rw[if_pos hr]at hs
    left
    refine⟨_,af (fun _=>⟨by show(0:Int)<=(j:Int);omega,by show(j:Int)<(b.length:Int);omega⟩) (ah (by show dQ (decide ((j:Int)<(b.length:Int))) false (dy (ix b (j:Int)))=_;rw[hd,kS,hrx]) (al (by show(decide ((j:Int)<(b.length:Int))&&Fs x)=true;rw[hd,hr];rfl) rfl)),⟨j+1,f,by show(⟨B,b,ao ((j:Int)+1),last⟩:ak)=_;rw[hw],by omega,by omega,hs⟩,by show b.length -(ao ((j:Int)+1)).toNat<b.length -(j:Int).toNat;rw[hw];omega⟩
   ·rw[if_neg hr]at hs
    subst hs
    right
    exact af (fun _=>⟨by show(0:Int)<=(j:Int);omega,by show(j:Int)<(b.length:Int);omega⟩) (ah (by show dQ (decide ((j:Int)<(b.length:Int))) false (dy (ix b (j:Int)))=_;rw[hd,kS,hrx]) (ae (by show¬(decide ((j:Int)<(b.length:Int))&&Fs x)=true;rw[hd];simpa using hr) rfl))
 ·show 0<=(k:Int)/\(k:Int)<=(T:Int)/\(T:Int)<=(b.length:Int)
  omega
end
end Go.AB
end
