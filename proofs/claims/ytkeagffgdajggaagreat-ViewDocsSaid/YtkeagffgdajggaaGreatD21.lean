/- A part of the proof. -/
import Derived.Test.YtkeagffgdajggaaGreatD13
import Derived.Test.YtkeagffgdajggaaGreatD20
import Derived.Lib.Bytealg
import Derived.Laws.Externs
import Derived.Lib.Walk
set_option linter.unusedSimpArgs false
set_option linter.unusedVariables false
section
set_option maxRecDepth 4000
namespace Go.AB
open Go
open Go.Proofs.Tryz (prog)
attribute[-go_sem] cu dj bO ct Nat.add_zero mV bS
def fL(f_0:nz)(l_1:aO):Option ((List Int)×(List af)×Int×Int):=
 aJ (cz (bN.mk ([]:List Int) []) [l_1.cQ]) fun r1=>
 yS (
  jY (
   iter (fun((pq,o10):(List af)×bN)=>
    if decide ((pq.length:Int)<(o10.l_.length:Int))then
     aB (0<=(pq.length:Int)/\(pq.length:Int)<o10.l_.length)<|
     aJ (fN f_0 (ix o10.l_ (pq.length:Int))) fun r18=>
     if r18.2.2 !=0 then
      some (.inr (.inr (([]:List Int),([]:List af),r18.2.1,r18.2.2,o10)))
     else
      jn (
       if(pq.length:Int)==0 then
        aJ (gy r18.1.V l_1.ag) fun r24=>
        aJ (cz o10 r24) fun r25=>
        some r25
       else
        aJ (fU r18.1.V) fun r26=>
        aJ (cz o10 r26) fun r27=>
        some r27) fun(o23:bN)=>
      aB ((pq.length+[r18.1].length)*80<=room)<|
      some (.inl (pq++[r18.1],o23))
    else
     some (.inr (.inl (pq,o10)))) (([]:List af),r1)) (fun((lu,o12):(List af)×bN)=>
   some (.inl (lu,o12)))
  (fun((t13,t14,t15,t16,o17):(List Int)×(List af)×Int×Int×bN)=>some (.inr (t13,t14,t15,t16,o17)))) (fun((fZ,o3):(List af)×bN)=>
  some (o3.l_,fZ,0,0))
 (fun((t4,t5,t6,t7,o8):(List Int)×(List af)×Int×Int×bN)=>some (t4,t5,t6,t7))
def sq:IC:=
 (ae [i1 3 (.b8 6 (.t 1)),i1 4 (.ib true (.c (.sl true 1 0 []))),i1 5 (.ib true (.c (.sl true 6 0 []))),mi 6 0,mi 7 0] [0,3]
 (ae [i1 13 (.makeMap),i1 14 (.build [.arr 0 0 0 0,.pj] [(1,1,(.t 13))]),i1 15 (.FV 1 2 (.t 14)),mv 8 15] [0,3,8]
 (ae [mv 16 8,fa 17 0 3,ld 18 1 17,i1 19 (.aN 1 1 jv [(0,1,(.t 18))]),c2 20 100 16 19] [0,3,8]
 (ae [i1 9 (.ib true (.c (.sl true 6 0 [])))] [0,3,8,9]
 (.join [(8,false),(9,false)] (.block 0 (.loop [(0,false),(3,false),(8,false),(9,false)] (.seq (ae [mv 21 9,le 22 0 21,mv 23 8,nc 24 23,fa 25 0 24,i1 26 (.bw [.sl false 1 0 []] false (.t 25)),le 27 0 26,bt 28 .lss 22 27] [0,3,8,9,28]
 (.cond (.t 28) .skip
 (.exit 0)))
 (.block 1 (ae [mv 30 0,mv 31 8,nc 32 31,fa 33 0 32,i1 34 (.bw [.sl false 1 0 []] false (.t 33)),mv 35 9,le 36 0 35,ia 37 jv 34 36,ld 38 1 37,c2 39 95 30 38,gi 29 39,ex 40 29 0,ex 41 29 1,ex 42 29 2,i1 10 (.an qR),st 6 10 40,mv 11 41,mv 12 42] [0,3,8,9,10,11,12]
 (.seq (ae [mv 43 12,bn 44 .neq 43 0] [0,3,8,9,10,11,12,44]
 (.cond (.t 44) (ae [mv 45 11,mv 46 12,i1 4 (.ib true (.c (.sl true 1 0 []))),i1 5 (.ib true (.c (.sl true 6 0 []))),mv 6 45,mv 7 46] [4,5,6,7]
 .ret)
 .skip))
 (.join [(0,false),(3,false),(8,false),(9,false),(10,false)] (ae [mv 47 9,le 48 0 47,bn 49 .eql 48 0] [0,3,8,9,10,49]
 (.cond (.t 49) (.bJ none [mv 50 8,fa 51 0 10,lm 52 4 51,fa 53 2 3,lm 54 4 53,c2 55 101 52 54,c2 56 100 50 55] [0,3,8,9,10])
 (.bJ none [mv 57 8,fa 58 0 10,lm 59 4 58,c1 60 102 59,c2 61 100 57 60] [0,3,8,9,10])))
 (.bJ none [mt 62 9,lm 63 6 10,i1 64 (.aN 6 1 qR [(0,6,(.t 63))]),Ec 65 6 80 62 64,mt 9 65] [0,3,8,9]))))))))
 (ae [mv 66 8,nc 67 66,fa 68 0 67,i1 69 (.jq (.t 68)),mt 70 9,mt 4 69,mt 5 70,mi 6 0,mi 7 0] [4,5,6,7]
 .ret))))))
theorem CD:aE prog 47 71 [⟨4,true,none⟩,⟨5,true,none⟩,⟨6,true,none⟩,⟨7,true,none⟩] sq=true:=by kernel_rfl
theorem C9{f_0 l_1}{s:ab}{Q:List AV->ab->Prop}(va0:dw s f_0):ok (fL f_0 l_1) (fun r=>Q [sT 1 r.1,sT 6 r.2.1,.int .i64 r.2.2.1,.int .i64 r.2.2.2] s)->FN prog 47 [.ref f_0.B 0,.agg [.int .i64 l_1.cQ,sF 1 l_1.Path,.int .i64 l_1.ag.Kind,.int .i64 l_1.ag.N,.str l_1.ag.S.b,sF 4 l_1.ag.L]] s Q:=by
 intro h
 refine FN.forget ?_
 refine FO CD rfl rfl ?_
 revert h
 rw[sq,fL]
 repeat'(first
  |(with_reducible first|exact bW|refine bj ?_ ?_|refine ch ?_|refine fun hh=>An (by simp -implicitDefEqProofs only[go_sem,seval,aj bX,aj bX.symm,set_comm bX.symm]) (hU (B0:=N2) (B0_in_:=N1) (by simp -implicitDefEqProofs only[go_sem,seval,aj bX,aj bX.symm,set_comm bX.symm]<;>simp only[bM]) (by simp -implicitDefEqProofs only[go_sem,seval,aj bX,aj bX.symm,set_comm bX.symm]<;>simp only[bM]) bX (cT (show ok (cz (bN.mk ([]:List Int) []) [l_1.cQ]) _ from hh) fun r1=>?_))|refine ah (fun _(h:fN f_0 (ix o10.l_ (pq.length:Int))=some _)=>oS (dw.mono (by assumption) (by repeat'(first|exact Sub.refl _|refine Sub.set ?_ ?_|assumption|(simp[ab.set, *];done)))) h) (fun r18=>?_)|refine ah (fun _(h:gy r18.1.V l_1.ag=some _)=>H8 h) (fun r24=>?_)|refine fun hh=>hU (B0:=N2) (B0_in_:=N1) (by simp -implicitDefEqProofs only[go_sem,seval,aj bX,aj bX.symm,set_comm bX.symm]<;>simp only[bM]) (by simp -implicitDefEqProofs only[go_sem,seval,aj bX,aj bX.symm,set_comm bX.symm]<;>simp only[bM]) bX (cT (show ok (cz o10 r24) _ from hh) fun r25=>?_)|refine ah (fun _(h:fU r18.1.V=some _)=>rH h) (fun r26=>?_)|refine fun hh=>hU (B0:=N2) (B0_in_:=N1) (by simp -implicitDefEqProofs only[go_sem,seval,aj bX,aj bX.symm,set_comm bX.symm]<;>simp only[bM]) (by simp -implicitDefEqProofs only[go_sem,seval,aj bX,aj bX.symm,set_comm bX.symm]<;>simp only[bM]) bX (cT (show ok (cz o10 r26) _ from hh) fun r27=>?_))
  |((with_reducible refine bT (live:=[(0,false),(3,false),(8,false),(9,false),(10,false)]) (fun(o23:bN)=>⟨[(0,.ref f_0.B 0),(3,.loc [.int .i64 l_1.cQ,sF 1 l_1.Path,.int .i64 l_1.ag.Kind,.int .i64 l_1.ag.N,.str l_1.ag.S.b,sF 4 l_1.ag.L]),(8,.ref N2 0),(9,sT 6 pq),(10,.loc [.int .i64 r18.1.V.Kind,.int .i64 r18.1.V.N,.str r18.1.V.S.b,sF 4 r18.1.V.L,.bool r18.1.Stream,.str r18.1.Data.b])],[],((s.set N1 (.map (hZ dT eT o23.UE))).set N2 (.cells [sT 1 o23.l_,.mp N1]))⟩) (fun J=>?_) ?_);rotate_left;rintro o23)
  |((with_reducible refine aY (fun((pq,o10):(List af)×bN)=>⟨[(0,.ref f_0.B 0),(3,.loc [.int .i64 l_1.cQ,sF 1 l_1.Path,.int .i64 l_1.ag.Kind,.int .i64 l_1.ag.N,.str l_1.ag.S.b,sF 4 l_1.ag.L]),(8,.ref N2 0),(9,sT 6 pq)],[],((s.set N1 (.map (hZ dT eT o10.UE))).set N2 (.cells [sT 1 o10.l_,.mp N1]))⟩) ?_ ?_);(first|exact rfl|simp -implicitDefEqProofs only[go_sem,seval,aj bX,aj bX.symm,set_comm bX.symm]);rintro J ⟨pq,o10⟩)
  |((with_reducible refine dD (live:=[(8,false),(9,false)]) (fun((fZ,o3):(List af)×bN)=>⟨[(8,.ref N2 0),(9,sT 6 fZ)],[],((s.set N1 (.map (hZ dT eT o3.UE))).set N2 (.cells [sT 1 o3.l_,.mp N1]))⟩) (fun J=>?_) ?_);rotate_left;rintro⟨fZ,o3⟩)
  |((fail_if_success (have _x:=sN1));with_reducible intro hh N1 hN1;(try simp only[dh]at hN1);have sN1:=hN1;revert hh)
  |(have _x:=sN1;clear _x;(fail_if_success (have _x:=sN2));with_reducible intro hh N2 hN2;(try simp only[dh]at hN2);obtain⟨bX,sN2⟩:=hN2;revert hh)
  |with_reducible exact fun hh=>⟨_,lP.set (lP.set (lP.refl _) (by simp[ab.set,sN1])) (by simp[ab.set,sN2]),hh⟩
  |simp -implicitDefEqProofs only[go_sem,seval,aj bX,aj bX.symm,set_comm bX.symm]
  |simp -implicitDefEqProofs only[go_sem,seval])
theorem C8{f_0 l_1}{s:ab}{r:(List Int)×(List af)×Int×Int}(va0:dw s f_0)(h:fL f_0 l_1=some r):FE prog 47 [.ref f_0.B 0,.agg [.int .i64 l_1.cQ,sF 1 l_1.Path,.int .i64 l_1.ag.Kind,.int .i64 l_1.ag.N,.str l_1.ag.S.b,sF 4 l_1.ag.L]] s [sT 1 r.1,sT 6 r.2.1,.int .i64 r.2.2.1,.int .i64 r.2.2.2] s:=C9 va0 ⟨r,h,rfl,rfl⟩
structure nh where
 B:(List UInt8)
 lh:(List Bool)
instance:aP nh:=⟨2,fun x=>[sF 1 x.B,sF 1 x.lh],(nh.mk [] []),by decide,fun _=>rfl,fun _=>rfl⟩
structure lz where
 de:(List Int)
 cM:Int
instance:aP lz:=⟨2,fun x=>[sF 1 x.de,.int .i64 x.cM],(lz.mk [] 0),by decide,fun _=>rfl,fun _=>rfl⟩
structure dH where
 ak:(List af)
 Bytes:nh
 Table:lz
instance:aP dH:=⟨6,fun x=>[.bool true,sF 6 x.ak,sF 1 x.Bytes.B,sF 1 x.Bytes.lh,sF 1 x.Table.de,.int .i64 x.Table.cM],(dH.mk [] (nh.mk [] []) (lz.mk [] 0)),by decide,fun _=>rfl,fun _=>rfl⟩
structure bH where
 cQ:Int
 Path:(List Int)
 ag:aa
instance:aP bH:=⟨6,fun x=>[.int .i64 x.cQ,sF 1 x.Path,.int .i64 x.ag.Kind,.int .i64 x.ag.N,.str x.ag.S.b,sF 4 x.ag.L],(bH.mk 0 [] (aa.mk 0 0 (ar.mk []) [])),by decide,fun _=>rfl,fun _=>rfl⟩
def eD(f_0:dH)(n_1:Int):Option (af×Int×Int):=
 if(decide (n_1<1))||(decide (n_1>(f_0.ak.length:Int)))then
  some ((af.mk (aa.mk 0 0 (ar.mk []) ([]:List aa)) false (ar.mk [])),0,0)
 else
  aB (0<=bd (n_1 -1)/\bd (n_1 -1)<f_0.ak.length)<|
  some (ix f_0.ak (bd (n_1 -1)),0,0)
def Ba:IC:=
 (ae [i1 2 (.b8 6 (.t 0)),i1 4 (.an qR),mi 5 0,mi 6 0] [1,2,4]
 (ae [i1 7 (.an qR)] [1,2,4,7]
 (.seq (ae [fa 16 0 2,ld 17 1 16] [1,2,4,7,17]
 (.cond (.t 17) (.seq (ae [mv 18 1,bn 19 .lss 18 1,mv 20 19,df 21 1 20 false,fg 22 20 false 1 2,lg 23 20 false 1 22,du 24 20 false (.len 0 (.t 23)),rF 25 20 false .gtr 21 24,po 26 20 25] [1,2,4,7,26]
 (.cond (.t 26) (ae [lm 27 6 7,st 6 4 27,mi 5 0,mi 6 0] [4,5,6]
 .ret)
 .skip))
 (ae [fa 28 1 2,ld 29 1 28,mv 30 1,bn 31 .sub 30 1,ia 32 TR 29 31,lm 33 6 32,st 6 4 33,mi 5 0,mi 6 0] [4,5,6]
 .ret))
 .skip))
 (ae [fa 35 4 2,lm 36 2 35,mv 37 1,c2 38 159 36 37,mv 34 38,ex 39 34 0,ex 40 34 1,mv 8 39,mv 9 40] [1,2,4,7,8,9]
 (.seq (ae [mv 41 9,no 42 41] [1,2,4,7,8,42]
 (.cond (.t 42) (ae [lm 43 6 7,st 6 4 43,mi 5 0,mi 6 0] [4,5,6]
 .ret)
 .skip))
 (.seq (ae [mv 44 8,fa 45 2 2,fa 46 0 45,ld 47 1 46,le 48 0 47,bt 49 .geq 44 48] [1,2,4,7,8,49]
 (.cond (.t 49) (ae [lm 50 6 7,st 6 4 50,mi 5 0,mi 6 18] [4,5,6]
 .ret)
 .skip))
 (ae [fa 52 2 2,lm 53 2 52,mv 54 8,c2 55 160 53 54,mv 51 55,ex 56 51 0,ex 57 51 1,mt 10 56,mv 11 57] [1,2,4,7,8,10,11]
 (ae [mt 59 10,mv 60 11,i1 61 (.call 161 [(.t 59),(.c (.int .i64 0)),(.t 60)]),mv 58 61,ex 62 58 0,ex 63 58 1,ex 64 58 2,ex 65 58 3,i1 13 (.an qR),mv 12 62,st 6 13 63,mv 14 64,mv 15 65] [1,2,4,7,8,12,13,15]
 (.seq (ae [mv 66 15,bn 67 .eql 66 6] [1,2,4,7,8,12,13,15,67]
 (.cond (.t 67) (.seq (.bJ (some 5) [lm 68 6 7,fa 69 2 2,lm 70 2 69,mv 71 8,c2 72 162 70 71,st 6 4 68,mv 5 72,mi 6 6] [4,5,6])
 .ret)
 .skip))
 (.seq (ae [mv 73 15,bn 74 .neq 73 0,mv 75 74,df 76 12 75 false,df 77 1 75 false,rF 78 75 false .neq 76 77,po 79 75 78] [4,7,13,79]
 (.cond (.t 79) (ae [lm 80 6 7,st 6 4 80,mi 5 0,mi 6 18] [4,5,6]
 .ret)
 .skip))
 (ae [lm 81 6 13,st 6 4 81,mi 5 0,mi 6 0] [4,5,6]
 .ret)))))))))))
theorem MQ:aE prog 106 82 [⟨4,false,some (6,true)⟩,⟨5,true,none⟩,⟨6,true,none⟩] Ba=true:=by kernel_rfl
theorem NF{f_0 n_1}{s:ab}{Q:List AV->ab->Prop}:ok (eD f_0 n_1) (fun r=>Q [.agg [.int .i64 r.1.V.Kind,.int .i64 r.1.V.N,.str r.1.V.S.b,sF 4 r.1.V.L,.bool r.1.Stream,.str r.1.Data.b],.int .i64 r.2.1,.int .i64 r.2.2] s)->FN prog 106 [.agg [.bool true,sF 6 f_0.ak,sF 1 f_0.Bytes.B,sF 1 f_0.Bytes.lh,sF 1 f_0.Table.de,.int .i64 f_0.Table.cM],.int .i64 n_1] s Q:=by
 intro h
 refine FO MQ rfl rfl ?_
 revert h
 rw[Ba,eD]
 repeat'(first
  |(with_reducible first|exact bW|refine ahi ?_)
  |simp -implicitDefEqProofs only[go_sem,seval])
theorem mo{f_0 n_1}{s:ab}{r:af×Int×Int}(h:eD f_0 n_1=some r):FE prog 106 [.agg [.bool true,sF 6 f_0.ak,sF 1 f_0.Bytes.B,sF 1 f_0.Bytes.lh,sF 1 f_0.Table.de,.int .i64 f_0.Table.cM],.int .i64 n_1] s [.agg [.int .i64 r.1.V.Kind,.int .i64 r.1.V.N,.str r.1.V.S.b,sF 4 r.1.V.L,.bool r.1.Stream,.str r.1.Data.b],.int .i64 r.2.1,.int .i64 r.2.2] s:=NF ⟨r,h,rfl,rfl⟩
def fx(v_0:aa)(dc:ar):Option (Int):=
 yS (
  jY (
   iter (fun(k2:Int)=>
    if(v_0.Kind==7)&&(decide (k2<(v_0.L.length:Int)))then
     aB (0<=k2/\k2<v_0.L.length)<|
     aB ((((ix v_0.L k2).Kind)==5)=true->0<=k2/\k2<v_0.L.length)<|
     if(((ix v_0.L k2).Kind)==5)&&(((ix v_0.L k2).S).b==dc.b)then
      some (.inr (.inr k2))
     else
      some (.inl (bd (k2+2)))
    else
     some (.inr (.inl ()))) 0) (fun(_:Unit)=>
   some (.inl ()))
  (fun(t3:Int)=>some (.inr t3))) (fun(_:Unit)=>
  some (-1))
 (fun(t1:Int)=>some t1)
def yw:IC:=
 (ae [i1 2 (.b8 4 (.t 0)),mi 4 0] [1,2]
 (.join [] (ae [mi 5 0] [1,2,5]
 (.block 0 (.loop [(1,false),(2,false),(5,false)] (.seq (ae [fa 6 0 2,ld 7 1 6,bn 8 .eql 7 7,mv 9 8,df 10 5 9 true,fg 11 9 true 3 2,lg 12 9 true 1 11,du 13 9 true (.len 0 (.t 12)),rF 14 9 true .lss 10 13,pf 15 9 14] [1,2,5,15]
 (.cond (.t 15) .skip
 (.exit 0)))
 (.seq (.block 1 (ae [fa 18 3 2,ld 19 1 18,mv 20 5,ia 21 pr 19 20,fa 22 0 21,ld 23 1 22,bn 24 .eql 23 5,mv 25 24,fg 26 25 true 3 2,lg 27 25 true 1 26,df 28 5 25 true,du 29 25 true (.indexAddr pr (.t 27) (.t 28)),fg 30 25 true 2 29,lg 31 25 true 1 30,df 32 1 25 true,rF 33 25 true .eql 31 32,pf 34 25 33] [1,2,5,34]
 (.cond (.t 34) (ae [mv 35 5,mv 4 35] [4]
 .ret)
 .skip)))
 (.bJ none [mv 16 5,bn 17 .add 16 2,mv 5 17] [1,2,5]))))))
 (ae [mi 4 (-1)] [4]
 .ret)))
theorem JG:aE prog 82 36 [⟨4,true,none⟩] yw=true:=by kernel_rfl
theorem Kh{v_0 dc}{s:ab}{Q:List AV->ab->Prop}:ok (fx v_0 dc) (fun r=>Q [.int .i64 r] s)->FN prog 82 [oV v_0,.str dc.b] s Q:=by
 intro h
 refine FO JG rfl rfl ?_
 revert h
 rw[yw,fx]
 repeat'(first
  |((with_reducible refine aY (fun(k2:Int)=>⟨[(1,.str dc.b),(2,.loc [.int .i64 v_0.Kind,.int .i64 v_0.N,.str v_0.S.b,sF 4 v_0.L]),(5,.int .i64 k2)],[],s⟩) ?_ ?_);(first|exact rfl|simp -implicitDefEqProofs only[go_sem,seval]);rintro J k2)
  |((with_reducible refine dD (fun(_:Unit)=>⟨[],[],s⟩) (fun J=>?_) ?_);rotate_left;rintro _)
  |simp -implicitDefEqProofs only[go_sem,seval])
theorem rI{v_0 dc}{s:ab}{r:Int}(h:fx v_0 dc=some r):FE prog 82 [oV v_0,.str dc.b] s [.int .i64 r] s:=Kh ⟨r,h,rfl,rfl⟩
def c9(v_0:aa)(dc:ar):Option (aa×Bool):=
 aJ (fx v_0 dc) fun r1=>
 if decide (r1<0)then
  some ((aa.mk 0 0 (ar.mk []) ([]:List aa)),false)
 else
  if r1==(bd ((v_0.L.length:Int) -1))then
   some ((aa.mk 0 0 (ar.mk []) ([]:List aa)),true)
  else
   aB (0<=bd (r1+1)/\bd (r1+1)<v_0.L.length)<|
   some (ix v_0.L (bd (r1+1)),true)
def A6:IC:=
 (ae [i1 2 (.b8 4 (.t 0)),i1 4 (.an gj),cZ 5 (.bool false)] [1,2,4]
 (ae [lm 7 4 2,mv 8 1,c2 9 82 7 8,mv 6 9] [2,4,6]
 (.seq (ae [mv 10 6,bn 11 .lss 10 0] [2,4,6,11]
 (.cond (.t 11) (ae [i1 12 (.build gj []),st 4 4 12,cZ 5 (.bool false)] [4,5]
 .ret)
 .skip))
 (.seq (ae [mv 13 6,fa 14 3 2,ld 15 1 14,le 16 0 15,bn 17 .sub 16 1,bt 18 .eql 13 17] [2,4,6,18]
 (.cond (.t 18) (ae [i1 19 (.build gj []),st 4 4 19,cZ 5 (.bool true)] [4,5]
 .ret)
 .skip))
 (ae [fa 20 3 2,ld 21 1 20,mv 22 6,bn 23 .add 22 1,ia 24 pr 21 23,lm 25 4 24,st 4 4 25,cZ 5 (.bool true)] [4,5]
 .ret)))))
theorem MM:aE prog 40 26 [⟨4,false,some (4,true)⟩,⟨5,true,none⟩] A6=true:=by kernel_rfl
theorem Ny{v_0 dc}{s:ab}{Q:List AV->ab->Prop}:ok (c9 v_0 dc) (fun r=>Q [oV r.1,.bool r.2] s)->FN prog 40 [oV v_0,.str dc.b] s Q:=by
 intro h
 refine FO MM rfl rfl ?_
 revert h
 rw[A6,c9]
 repeat'(first
  |with_reducible refine ah (fun _(h:fx v_0 dc=some _)=>rI h) (fun r1=>?_)
  |simp -implicitDefEqProofs only[go_sem,seval])
theorem mn{v_0 dc}{s:ab}{r:aa×Bool}(h:c9 v_0 dc=some r):FE prog 40 [oV v_0,.str dc.b] s [oV r.1,.bool r.2] s:=Ny ⟨r,h,rfl,rfl⟩
def dY(o_0:af)(kQ:ar):Option (Bool):=
 aJ (c9 o_0.V (ar.mk [84,121,112,101])) fun r1=>
 some (((r1.2&&(!o_0.Stream))&&(r1.1.Kind==5))&&(r1.1.S.b==kQ.b))
def vP:IC:=
 (ae [i1 2 (.b8 6 (.t 0)),cZ 4 (.bool false)] [1,2]
 (ae [fa 8 0 2,lm 9 4 8,i1 10 (.call 40 [(.t 9),(.c (.str [84,121,112,101]))]),gi 7 10,ex 11 7 0,ex 12 7 1,i1 5 (.an gj),st 4 5 11,mv 6 12] [1,2,5,6]
 (ae [mv 13 6,mv 14 13,fg 15 14 true 4 2,lg 16 14 true 1 15,du 17 14 true (.un .not (.t 16)),pf 18 14 17,mv 19 18,fg 20 19 true 0 5,lg 21 19 true 1 20,ju 22 19 true .eql 21 5,pf 23 19 22,mv 24 23,fg 25 24 true 2 5,lg 26 24 true 1 25,df 27 1 24 true,rF 28 24 true .eql 26 27,pf 29 24 28,mv 4 29] [4]
 .ret)))
theorem Hj:aE prog 157 30 [⟨4,true,none⟩] vP=true:=by kernel_rfl
theorem Ir{o_0 kQ}{s:ab}{Q:List AV->ab->Prop}:ok (dY o_0 kQ) (fun r=>Q [.bool r] s)->FN prog 157 [.agg [.int .i64 o_0.V.Kind,.int .i64 o_0.V.N,.str o_0.V.S.b,sF 4 o_0.V.L,.bool o_0.Stream,.str o_0.Data.b],.str kQ.b] s Q:=by
 intro h
 refine FO Hj rfl rfl ?_
 revert h
 rw[vP,dY]
 repeat'(first
  |with_reducible refine ah (fun _(h:c9 o_0.V (ar.mk [84,121,112,101])=some _)=>mn h) (fun r1=>?_)
  |simp -implicitDefEqProofs only[go_sem,seval])
theorem qn{o_0 kQ}{s:ab}{r:Bool}(h:dY o_0 kQ=some r):FE prog 157 [.agg [.int .i64 o_0.V.Kind,.int .i64 o_0.V.N,.str o_0.V.S.b,sF 4 o_0.V.L,.bool o_0.Stream,.str o_0.Data.b],.str kQ.b] s [.bool r] s:=Ir ⟨r,h,rfl,rfl⟩
def dp(o_0:af):Option (Int×(List Int)×Bool):=
 aJ (c9 o_0.V (ar.mk [75,105,100,115])) fun r1=>
 aJ (c9 o_0.V (ar.mk [67,111,117,110,116])) fun r2=>
 aJ (dY o_0 (ar.mk [80,97,103,101,115])) fun r3=>
 if(((((!r3)||(r1.1.Kind !=6))||((r1.1.L.length:Int)==0))||(r2.1.Kind !=2))||(decide (r2.1.N<(r1.1.L.length:Int))))||(decide (r2.1.N>2048))then
  some (0,([]:List Int),false)
 else
  yS (
   jY (
    iter (fun((pq,k10):(List Int)×Int)=>
     if decide (k10<(r1.1.L.length:Int))then
      aB (0<=k10/\k10<r1.1.L.length)<|
      if((ix r1.1.L k10).Kind)!=8 then
       some (.inr (.inr ((0:Int),([]:List Int),false)))
      else
       aB (0<=k10/\k10<r1.1.L.length)<|
       aB ((pq.length+[(ix r1.1.L k10).N].length)*8<=room)<|
       some (.inl (pq++[(ix r1.1.L k10).N],bd (k10+1)))
     else
      some (.inr (.inl pq))) (([]:List Int),0)) (fun(ahB:(List Int))=>
    some (.inl ahB))
   (fun((t13,t14,t15):Int×(List Int)×Bool)=>some (.inr (t13,t14,t15)))) (fun(rB:(List Int))=>
   some (r2.1.N,rB,true))
  (fun((t6,t7,t8):Int×(List Int)×Bool)=>some (t6,t7,t8))
def yG:IC:=
 (ae [i1 1 (.b8 6 (.t 0)),mi 2 0,i1 3 (.ib true (.c (.sl true 1 0 []))),cZ 4 (.bool false)] [1]
 (ae [fa 12 0 1,lm 13 4 12,i1 14 (.call 40 [(.t 13),(.c (.str [75,105,100,115]))]),gi 11 14,ex 15 11 0,ex 16 11 1,i1 5 (.an gj),st 4 5 15,mv 6 16] [1,5]
 (ae [fa 18 0 1,lm 19 4 18,i1 20 (.call 40 [(.t 19),(.c (.str [67,111,117,110,116]))]),gi 17 20,ex 21 17 0,ex 22 17 1,i1 7 (.an gj),st 4 7 21,mv 8 22] [1,5,7]
 (.seq (ae [lm 23 6 1,i1 24 (.call 157 [(.t 23),(.c (.str [80,97,103,101,115]))]),no 25 24,mv 26 25,fg 27 26 false 0 5,lg 28 26 false 1 27,ju 29 26 false .neq 28 6,po 30 26 29,mv 31 30,fg 32 31 false 3 5,lg 33 31 false 1 32,du 34 31 false (.len 0 (.t 33)),ju 35 31 false .eql 34 0,po 36 31 35,mv 37 36,fg 38 37 false 0 7,lg 39 37 false 1 38,ju 40 37 false .neq 39 2,po 41 37 40,mv 42 41,fg 43 42 false 1 7,lg 44 42 false 1 43,fg 45 42 false 3 5,lg 46 42 false 1 45,du 47 42 false (.len 0 (.t 46)),rF 48 42 false .lss 44 47,po 49 42 48,mv 50 49,fg 51 50 false 1 7,lg 52 50 false 1 51,ju 53 50 false .gtr 52 2048,po 54 50 53] [5,7,54]
 (.cond (.t 54) (ae [mi 2 0,i1 3 (.ib true (.c (.sl true 1 0 []))),cZ 4 (.bool false)] [2,3,4]
 .ret)
 .skip))
 (ae [i1 9 (.ib true (.c (.sl true 1 0 [])))] [5,7,9]
 (.join [(7,false),(9,false)] (ae [mi 10 0] [5,7,9,10]
 (.block 0 (.loop [(5,false),(7,false),(9,false),(10,false)] (.seq (ae [mv 55 10,fa 56 3 5,ld 57 1 56,le 58 0 57,bt 59 .lss 55 58] [5,7,9,10,59]
 (.cond (.t 59) .skip
 (.exit 0)))
 (.seq (.block 1 (.seq (ae [fa 62 3 5,ld 63 1 62,mv 64 10,ia 65 pr 63 64,fa 66 0 65,ld 67 1 66,bn 68 .neq 67 8] [5,7,9,10,68]
 (.cond (.t 68) (ae [mi 2 0,i1 3 (.ib true (.c (.sl true 1 0 []))),cZ 4 (.bool false)] [2,3,4]
 .ret)
 .skip))
 (.bJ none [mt 69 9,fa 70 3 5,ld 71 1 70,mv 72 10,ia 73 pr 71 72,fa 74 1 73,ld 75 1 74,i1 76 (.aN 1 1 jv [(0,1,(.t 75))]),Ec 77 1 8 69 76,mt 9 77] [5,7,9,10])))
 (.bJ none [mv 60 10,bn 61 .add 60 1,mv 10 61] [5,7,9,10]))))))
 (ae [fa 78 1 7,ld 79 1 78,mt 80 9,mv 2 79,mt 3 80,cZ 4 (.bool true)] [2,3,4]
 .ret)))))))
theorem JQ:aE prog 104 81 [⟨2,true,none⟩,⟨3,true,none⟩,⟨4,true,none⟩] yG=true:=by kernel_rfl
theorem Ky{o_0}{s:ab}{Q:List AV->ab->Prop}:ok (dp o_0) (fun r=>Q [.int .i64 r.1,sT 1 r.2.1,.bool r.2.2] s)->FN prog 104 [.agg [.int .i64 o_0.V.Kind,.int .i64 o_0.V.N,.str o_0.V.S.b,sF 4 o_0.V.L,.bool o_0.Stream,.str o_0.Data.b]] s Q:=by
 intro h
 refine FO JQ rfl rfl ?_
 revert h
 rw[yG,dp]
 repeat'(first
  |(with_reducible first|exact bW|refine bj ?_ ?_|refine ch ?_|refine ah (fun _(h:c9 o_0.V (ar.mk [75,105,100,115])=some _)=>mn h) (fun r1=>?_)|refine ah (fun _(h:c9 o_0.V (ar.mk [67,111,117,110,116])=some _)=>mn h) (fun r2=>?_)|refine ah (fun _(h:dY o_0 (ar.mk [80,97,103,101,115])=some _)=>qn h) (fun r3=>?_))
  |((with_reducible refine aY (fun((pq,k10):(List Int)×Int)=>⟨[(5,.loc [.int .i64 r1.1.Kind,.int .i64 r1.1.N,.str r1.1.S.b,sF 4 r1.1.L]),(7,.loc [.int .i64 r2.1.Kind,.int .i64 r2.1.N,.str r2.1.S.b,sF 4 r2.1.L]),(9,sT 1 pq),(10,.int .i64 k10)],[],s⟩) ?_ ?_);(first|exact rfl|simp -implicitDefEqProofs only[go_sem,seval]);rintro J ⟨pq,k10⟩)
  |((with_reducible refine dD (fun(rB:(List Int))=>⟨[(7,.loc [.int .i64 r2.1.Kind,.int .i64 r2.1.N,.str r2.1.S.b,sF 4 r2.1.L]),(9,sT 1 rB)],[],s⟩) (fun J=>?_) ?_);rotate_left;rintro rB)
  |simp -implicitDefEqProofs only[go_sem,seval])
theorem kd{o_0}{s:ab}{r:Int×(List Int)×Bool}(h:dp o_0=some r):FE prog 104 [.agg [.int .i64 o_0.V.Kind,.int .i64 o_0.V.N,.str o_0.V.S.b,sF 4 o_0.V.L,.bool o_0.Stream,.str o_0.Data.b]] s [.int .i64 r.1,sT 1 r.2.1,.bool r.2.2] s:=Ky ⟨r,h,rfl,rfl⟩
def jd(f_0:dH):Option (Int×af×Int×Int):=
 aJ (eD f_0 f_0.Table.cM) fun r1=>
 if r1.2.2 !=0 then
  some (0,(af.mk (aa.mk 0 0 (ar.mk []) ([]:List aa)) false (ar.mk [])),r1.2.1,r1.2.2)
 else
  aJ (c9 r1.1.V (ar.mk [80,97,103,101,115])) fun r2=>
  aJ (dY r1.1 (ar.mk [67,97,116,97,108,111,103])) fun r3=>
  if(!r3)||(r2.1.Kind !=8)then
   some (0,(af.mk (aa.mk 0 0 (ar.mk []) ([]:List aa)) false (ar.mk [])),0,23)
  else
   aJ (eD f_0 r2.1.N) fun r4=>
   if r4.2.2 !=0 then
    some (0,(af.mk (aa.mk 0 0 (ar.mk []) ([]:List aa)) false (ar.mk [])),r4.2.1,r4.2.2)
   else
    aJ (dp r4.1) fun r5=>
    if !r5.2.2 then
     some (0,(af.mk (aa.mk 0 0 (ar.mk []) ([]:List aa)) false (ar.mk [])),0,24)
    else
     some (r2.1.N,r4.1,0,0)
def Bb:IC:=
 (ae [i1 1 (.b8 6 (.t 0)),mi 2 0,i1 3 (.an qR),mi 4 0,mi 5 0] [1,3]
 (ae [i1 6 (.an qR)] [1,3,6]
 (ae [lm 19 6 1,fa 20 4 1,fa 21 1 20,ld 22 1 21,c2 23 106 19 22,gi 18 23,ex 24 18 0,ex 25 18 1,ex 26 18 2,i1 7 (.an qR),st 6 7 24,mv 8 25,mv 9 26] [1,3,6,7,8,9]
 (.seq (ae [mv 27 9,bn 28 .neq 27 0] [1,3,6,7,8,9,28]
 (.cond (.t 28) (.seq (.oG [3] 7 [lm 29 6 6,mv 30 8,mv 31 9,mi 2 0,st 6 3 29,mv 4 30,mv 5 31] [2,3,4,5])
 .ret)
 .skip))
 (ae [fa 33 0 7,lm 34 4 33,i1 35 (.call 40 [(.t 34),(.c (.str [80,97,103,101,115]))]),gi 32 35,ex 36 32 0,ex 37 32 1,i1 10 (.an gj),st 4 10 36,mv 11 37] [1,3,6,7,10]
 (.seq (ae [lm 38 6 7,i1 39 (.call 157 [(.t 38),(.c (.str [67,97,116,97,108,111,103]))]),no 40 39,mv 41 40,fg 42 41 false 0 10,lg 43 41 false 1 42,ju 44 41 false .neq 43 8,po 45 41 44] [1,3,6,10,45]
 (.cond (.t 45) (.seq (.bJ (some 2) [lm 46 6 6,mi 2 0,st 6 3 46,mi 4 0,mi 5 23] [2,3,4,5])
 .ret)
 .skip))
 (ae [lm 48 6 1,fa 49 1 10,ld 50 1 49,c2 51 106 48 50,gi 47 51,ex 52 47 0,ex 53 47 1,ex 54 47 2,i1 12 (.an qR),st 6 12 52,mv 13 53,mv 14 54] [3,6,10,12,13,14]
 (.seq (ae [mv 55 14,bn 56 .neq 55 0] [3,6,10,12,13,14,56]
 (.cond (.t 56) (.seq (.oG [3] 7 [lm 57 6 6,mv 58 13,mv 59 14,mi 2 0,st 6 3 57,mv 4 58,mv 5 59] [2,3,4,5])
 .ret)
 .skip))
 (ae [lm 61 6 12,c1 62 104 61,gi 60 62,ex 63 60 0,ex 64 60 1,ex 65 60 2,mv 15 63,mt 16 64,mv 17 65] [3,6,10,12,17]
 (.seq (ae [mv 66 17,no 67 66] [3,6,10,12,67]
 (.cond (.t 67) (.seq (.bJ (some 2) [lm 68 6 6,mi 2 0,st 6 3 68,mi 4 0,mi 5 24] [2,3,4,5])
 .ret)
 .skip))
 (.seq (.bJ (some 4) [fa 69 1 10,ld 70 1 69,lm 71 6 12,mv 2 70,st 6 3 71,mi 4 0,mi 5 0] [2,3,4,5])
 .ret)))))))))))
theorem MR:aE prog 103 72 [⟨2,true,none⟩,⟨3,false,some (6,true)⟩,⟨4,true,none⟩,⟨5,true,none⟩] Bb=true:=by kernel_rfl
theorem NH{f_0}{s:ab}{Q:List AV->ab->Prop}:ok (jd f_0) (fun r=>Q [.int .i64 r.1,.agg [.int .i64 r.2.1.V.Kind,.int .i64 r.2.1.V.N,.str r.2.1.V.S.b,sF 4 r.2.1.V.L,.bool r.2.1.Stream,.str r.2.1.Data.b],.int .i64 r.2.2.1,.int .i64 r.2.2.2] s)->FN prog 103 [.agg [.bool true,sF 6 f_0.ak,sF 1 f_0.Bytes.B,sF 1 f_0.Bytes.lh,sF 1 f_0.Table.de,.int .i64 f_0.Table.cM]] s Q:=by
 intro h
 refine FO MR rfl rfl ?_
 revert h
 rw[Bb,jd]
 repeat'(first
  |(with_reducible first|exact bW|refine bj ?_ ?_|refine ch ?_|refine ah (fun _(h:eD f_0 f_0.Table.cM=some _)=>mo h) (fun r1=>?_)|refine ah (fun _(h:c9 r1.1.V (ar.mk [80,97,103,101,115])=some _)=>mn h) (fun r2=>?_)|refine ah (fun _(h:dY r1.1 (ar.mk [67,97,116,97,108,111,103])=some _)=>qn h) (fun r3=>?_)|refine ah (fun _(h:eD f_0 r2.1.N=some _)=>mo h) (fun r4=>?_)|refine ah (fun _(h:dp r4.1=some _)=>kd h) (fun r5=>?_))
  |simp -implicitDefEqProofs only[go_sem,seval])
theorem NG{f_0}{s:ab}{r:Int×af×Int×Int}(h:jd f_0=some r):FE prog 103 [.agg [.bool true,sF 6 f_0.ak,sF 1 f_0.Bytes.B,sF 1 f_0.Bytes.lh,sF 1 f_0.Table.de,.int .i64 f_0.Table.cM]] s [.int .i64 r.1,.agg [.int .i64 r.2.1.V.Kind,.int .i64 r.2.1.V.N,.str r.2.1.V.S.b,sF 4 r.2.1.V.L,.bool r.2.1.Stream,.str r.2.1.Data.b],.int .i64 r.2.2.1,.int .i64 r.2.2.2] s:=NH ⟨r,h,rfl,rfl⟩
def lB:Option ((List ar)):=some [(ar.mk [67,114,111,112,66,111,120]),(ar.mk [77,101,100,105,97,66,111,120]),(ar.mk [82,101,115,111,117,114,99,101,115]),(ar.mk [82,111,116,97,116,101])]
def vQ:IC:=
 (ae [i1 0 (.ib true (.c (.sl true 1 0 [])))] []
 (ae [i1 1 (.aN 1 4 [.str [],.str [],.str [],.str []] [(0,1,(.c (.str [67,114,111,112,66,111,120]))),(1,1,(.c (.str [77,101,100,105,97,66,111,120]))),(2,1,(.c (.str [82,101,115,111,117,114,99,101,115]))),(3,1,(.c (.str [82,111,116,97,116,101])))]),mt 0 1] [0]
 .ret))
theorem Hk:aE prog 199 2 [⟨0,true,none⟩] vQ=true:=by kernel_rfl
theorem It{s:ab}{Q:List AV->ab->Prop}:ok (lB) (fun r=>Q [sT 1 r] s)->FN prog 199 [] s Q:=by
 intro h
 refine FO Hk rfl rfl ?_
 revert h
 rw[vQ,lB]
 repeat'(first
  |simp -implicitDefEqProofs only[go_sem,seval])
theorem Is{s:ab}{r:(List ar)}(h:lB=some r):FE prog 199 [] s [sT 1 r] s:=It ⟨r,h,rfl,rfl⟩
def jH(hE:aa)(sS:(List aa)):Option (aa):=
 aJ (lB) fun r1=>
 jn (
  iter (fun((kb,k5):aa×Int)=>
   if decide (k5<(r1.length:Int))then
    jn (
     aB (0<=k5/\k5<r1.length)<|
     aJ (fx hE (ix r1 k5)) fun r14=>
     if decide (r14>=0)then
      some kb
     else
      iter (fun(j15:Int)=>
       if decide (j15>=0)then
        aB (0<=j15/\j15<sS.length)<|
        aB (0<=k5/\k5<r1.length)<|
        aJ (c9 (ix sS j15) (ix r1 k5)) fun r22=>
        if r22.2 then
         aB (0<=k5/\k5<r1.length)<|
         aB ((kb.L.length+[(aa.mk 5 0 (ix r1 k5) ([]:List aa)),r22.1].length)*56<=room)<|
         some (.inr (aa.mk kb.Kind kb.N kb.S (kb.L++[(aa.mk 5 0 (ix r1 k5) ([]:List aa)),r22.1])))
        else
         some (.inl (bd (j15 -1)))
       else
        some (.inr kb)) (bd ((sS.length:Int) -1))) fun(lu:aa)=>
    some (.inl (lu,bd (k5+1)))
   else
    some (.inr kb)) ((aa.mk 7 0 (ar.mk []) ([]:List aa)),0)) fun(jt:aa)=>
 some jt
def vO:IC:=
 (ae [i1 2 (.b8 4 (.t 0)),i1 4 (.an gj)] [1,2,4]
 (ae [i1 11 (.build [.int .i64 0,.int .i64 0,.str [],.arr 0 0 0 0] [(0,1,(.c (.int .i64 7)))]),i1 5 (.an gj),i0 (.qw 4 4 (.t 5) (.t 11))] [1,2,4,5]
 (ae [i1 12 (.call 199 []),mt 6 12] [1,2,4,5,6]
 (.join [(4,false),(5,false)] (ae [mi 7 0] [1,2,4,5,6,7]
 (.block 0 (.loop [(1,true),(2,false),(4,false),(5,false),(6,false),(7,false)] (.seq (ae [mv 13 7,mv 14 6,le 15 0 14,bt 16 .lss 13 15] [1,2,4,5,6,7,16]
 (.cond (.t 16) .skip
 (.exit 0)))
 (.join [(1,true),(2,false),(4,false),(5,false),(6,false),(7,false)] (.block 1 (.seq (.seq (.bJ (some 7) [lm 19 4 2,mv 20 6,mv 21 7,ia 22 [.str []] 20 21,ld 23 1 22,c2 24 82 19 23,bn 25 .geq 24 0] [1,2,4,5,6,7,25])
 (.cond (.t 25) (.exit 1)
 .skip))
 (ae [mv 26 1,le 27 0 26,bn 28 .sub 27 1,mv 8 28] [1,2,4,5,6,7,8]
 (.block 2 (.loop [(1,true),(2,false),(4,false),(5,false),(6,false),(7,false),(8,false)] (.seq (ae [mv 29 8,bn 30 .geq 29 0] [1,2,4,5,6,7,8,30]
 (.cond (.t 30) .skip
 (.exit 2)))
 (.seq (.block 3 (.seq (.oG [9] 15 [mv 34 1,mv 35 8,ia 36 pr 34 35,lm 37 4 36,mv 38 6,mv 39 7,ia 40 [.str []] 38 39,ld 41 1 40,c2 42 40 37 41,gi 33 42,ex 43 33 0,ex 44 33 1,i1 9 (.an gj),st 4 9 43,mv 10 44] [1,2,4,5,6,7,8,9,10])
 (ae [mv 45 10] [1,2,4,5,6,7,8,9,45]
 (.cond (.t 45) (.seq (.oG [] 11 [fa 46 3 5,i1 47 (.mL 3 (.t 5) (.t 46)),mv 48 6,mv 49 7,ia 50 [.str []] 48 49,ld 51 1 50,i1 52 (.build gj [(0,1,(.c (.int .i64 5))),(2,1,(.t 51))]),lm 53 4 9,i1 54 (.aN 4 2 [.int .i64 0,.int .i64 0,.str [],.sl true 4 0 [],.int .i64 0,.int .i64 0,.str [],.sl true 4 0 []] [(0,4,(.t 52)),(4,4,(.t 53))]),Ec 55 4 56 47 54,fa 56 3 5,st 1 56 55] [1,2,4,5,6,7])
 (.exit 2))
 .skip))))
 (.bJ none [mv 31 8,bn 32 .sub 31 1,mv 8 32] [1,2,4,5,6,7,8]))))))))
 (.bJ none [mv 17 7,bn 18 .add 17 1,mv 7 18] [1,2,4,5,6,7]))))))
 (ae [lm 57 4 5,st 4 4 57] [4]
 .ret)))))
theorem Hi:aE prog 158 58 [⟨4,false,some (4,true)⟩] vO=true:=by kernel_rfl
theorem Iq{hE sS}{s:ab}{Q:List AV->ab->Prop}:ok (jH hE sS) (fun r=>Q [oV r] s)->FN prog 158 [oV hE,sF 4 sS] s Q:=by
 intro h
 refine FO Hi rfl rfl ?_
 revert h
 rw[vO,jH]
 repeat'(first
  |with_reducible exact bW
  |((with_reducible refine Jc ?_ ?_);exact rfl)
  |(with_reducible first|refine bj ?_ ?_|refine ch ?_|refine ah (fun _(h:lB=some _)=>Is h) (fun r1=>?_)|refine ba (fun _(h:fx hE (ix r1 k5)=some _)=>rI h) (fun _=>rfl) (fun r14=>?_)|refine ba (fun _(h:c9 (ix sS j15) (ix r1 k5)=some _)=>mn h) (fun _=>rfl) (fun r22=>?_))
  |((with_reducible refine aY (fun(j15:Int)=>⟨[(1,sF 4 sS),(2,.loc [.int .i64 hE.Kind,.int .i64 hE.N,.str hE.S.b,sF 4 hE.L]),(4,.loc [.int .i64 0,.int .i64 0,.str (ar.mk []).b,.sl true 4 0 []]),(5,.loc [.int .i64 kb.Kind,.int .i64 kb.N,.str kb.S.b,sT 4 kb.L]),(6,sT 1 r1),(7,.int .i64 k5),(8,.int .i64 j15)],[],s⟩) ?_ ?_);(first|exact rfl|simp -implicitDefEqProofs only[go_sem,seval]);rintro J j15)
  |((with_reducible refine bT (live:=[(1,true),(2,false),(4,false),(5,false),(6,false),(7,false)]) (fun(lu:aa)=>⟨[(1,sF 4 sS),(2,.loc [.int .i64 hE.Kind,.int .i64 hE.N,.str hE.S.b,sF 4 hE.L]),(4,.loc [.int .i64 0,.int .i64 0,.str (ar.mk []).b,.sl true 4 0 []]),(5,.loc [.int .i64 lu.Kind,.int .i64 lu.N,.str lu.S.b,sT 4 lu.L]),(6,sT 1 r1),(7,.int .i64 k5)],[],s⟩) (fun J=>?_) ?_);rotate_left;rintro lu)
  |((with_reducible refine aY (fun((kb,k5):aa×Int)=>⟨[(1,sF 4 sS),(2,.loc [.int .i64 hE.Kind,.int .i64 hE.N,.str hE.S.b,sF 4 hE.L]),(4,.loc [.int .i64 0,.int .i64 0,.str (ar.mk []).b,.sl true 4 0 []]),(5,.loc [.int .i64 kb.Kind,.int .i64 kb.N,.str kb.S.b,sT 4 kb.L]),(6,sT 1 r1),(7,.int .i64 k5)],[],s⟩) ?_ ?_);(first|exact rfl|simp -implicitDefEqProofs only[go_sem,seval]);rintro J ⟨kb,k5⟩)
  |((with_reducible refine bT (live:=[(4,false),(5,false)]) (fun(jt:aa)=>⟨[(4,.loc [.int .i64 0,.int .i64 0,.str (ar.mk []).b,.sl true 4 0 []]),(5,.loc [.int .i64 jt.Kind,.int .i64 jt.N,.str jt.S.b,sT 4 jt.L])],[],s⟩) (fun J=>?_) ?_);rotate_left;rintro jt)
  |simp -implicitDefEqProofs only[go_sem,seval])
theorem Ip{hE sS}{s:ab}{r:aa}(h:jH hE sS=some r):FE prog 158 [oV hE,sF 4 sS] s [oV r] s:=Iq ⟨r,h,rfl,rfl⟩
def dq:Nat->dH->Int->af->Int->(List Int)->(List aa)->Option (bH×Int×Int)
 |0,_,_,_,_,_,_=>none
 |fuel+1,f_0,n_1,o_2,p_3,iM,mz=>
  if(iM.length:Int)==64 then
   some ((bH.mk 0 ([]:List Int) (aa.mk 0 0 (ar.mk []) ([]:List aa))),0,24)
  else
   aB ((([]:List Int).length+iM.length)*8<=room)<|
   aB ((iM.length+[n_1].length)*8<=room)<|
   aB ((([]:List aa).length+mz.length)*56<=room)<|
   aB ((mz.length+[o_2.V].length)*56<=room)<|
   aJ (dp o_2) fun r1=>
   if r1.1==(r1.2.1.length:Int)then
    aB (0<=p_3/\p_3<r1.2.1.length)<|
    aJ (eD f_0 (ix r1.2.1 p_3)) fun r2=>
    if r2.2.2 !=0 then
     some ((bH.mk 0 ([]:List Int) (aa.mk 0 0 (ar.mk []) ([]:List aa))),r2.2.1,r2.2.2)
    else
     aJ (dY r2.1 (ar.mk [80,97,103,101])) fun r3=>
     if r3 then
      aB (0<=p_3/\p_3<r1.2.1.length)<|
      aJ (jH r2.1.V (mz++[o_2.V])) fun r4=>
      some ((bH.mk (ix r1.2.1 p_3) (iM++[n_1]) r4),0,0)
     else
      aJ (dp r2.1) fun r5=>
      if(!r5.2.2)||(r5.1 !=1)then
       some ((bH.mk 0 ([]:List Int) (aa.mk 0 0 (ar.mk []) ([]:List aa))),0,24)
      else
       aB (0<=p_3/\p_3<r1.2.1.length)<|
       aJ (dq fuel f_0 (ix r1.2.1 p_3) r2.1 0 (iM++[n_1]) (mz++[o_2.V])) fun r6=>
       some (r6.1,r6.2.1,r6.2.2)
   else
    yS (
     jY (
      iter (fun((p11,k12):Int×Int)=>
       if decide (k12<(r1.2.1.length:Int))then
        aB (0<=k12/\k12<r1.2.1.length)<|
        aJ (eD f_0 (ix r1.2.1 k12)) fun r17=>
        if r17.2.2 !=0 then
         some (.inr (.inr ((bH.mk 0 ([]:List Int) (aa.mk 0 0 (ar.mk []) ([]:List aa))),r17.2.1,r17.2.2)))
        else
         aJ (dp r17.1) fun r18=>
         if !r18.2.2 then
          some (.inr (.inr ((bH.mk 0 ([]:List Int) (aa.mk 0 0 (ar.mk []) ([]:List aa))),(0:Int),(24:Int))))
         else
          if decide (p11<r18.1)then
           aB (0<=k12/\k12<r1.2.1.length)<|
           aJ (dq fuel f_0 (ix r1.2.1 k12) r17.1 p11 (iM++[n_1]) (mz++[o_2.V])) fun r19=>
           some (.inr (.inr (r19.1,r19.2.1,r19.2.2)))
          else
           some (.inl (bd (p11 -r18.1),bd (k12+1)))
       else
        some (.inr (.inl ()))) (p_3,0)) (fun(_:Unit)=>
      some (.inl ()))
     (fun((t14,t15,t16):bH×Int×Int)=>some (.inr (t14,t15,t16)))) (fun(_:Unit)=>
     some ((bH.mk 0 ([]:List Int) (aa.mk 0 0 (ar.mk []) ([]:List aa))),0,24))
    (fun((t8,t9,t10):bH×Int×Int)=>some (t8,t9,t10))
def yH:IC:=
 (ae [i1 6 (.b8 6 (.t 0)),i1 8 (.b8 6 (.t 2)),i1 12 (.an Fz),mi 13 0,mi 14 0] [1,3,4,5,6,8,12]
 (.seq (ae [mv 31 4,le 32 0 31,bn 33 .eql 32 64] [1,3,4,5,6,8,12,33]
 (.cond (.t 33) (ae [i1 34 (.build Fz []),st 6 12 34,mi 13 0,mi 14 24] [12,13,14]
 .ret)
 .skip))
 (ae [i1 35 (.aN 1 0 [] []),mt 36 4,Ec 37 1 8 35 36,mv 38 1,i1 39 (.aN 1 1 jv [(0,1,(.t 38))]),Ec 40 1 8 37 39,mt 4 40] [3,4,5,6,8,12]
 (.seq (.oG [] 8 [i1 41 (.aN 4 0 [] []),mt 42 5,Ec 43 4 56 41 42,fa 44 0 8,lm 45 4 44,i1 46 (.aN 4 1 gj [(0,4,(.t 45))]),Ec 47 4 56 43 46,mt 5 47] [3,4,5,6,8,12])
 (ae [lm 49 6 8,c1 50 104 49,gi 48 50,ex 51 48 0,ex 52 48 1,ex 53 48 2,mv 15 51,mt 16 52,mv 17 53] [3,4,5,6,12,15,16]
 (.seq (ae [mv 54 15,mv 55 16,le 56 0 55,bt 57 .eql 54 56] [3,4,5,6,12,16,57]
 (.cond (.t 57) (.seq (.oG [18] 14 [lm 59 6 6,mv 60 16,mv 61 3,ia 62 jv 60 61,ld 63 1 62,c2 64 106 59 63,gi 58 64,ex 65 58 0,ex 66 58 1,ex 67 58 2,i1 18 (.an qR),st 6 18 65,mv 19 66,mv 20 67] [3,4,5,6,12,16,18,19,20])
 (.seq (ae [mv 68 20,bn 69 .neq 68 0] [3,4,5,6,12,16,18,19,20,69]
 (.cond (.t 69) (ae [i1 70 (.build Fz []),mv 71 19,mv 72 20,st 6 12 70,mv 13 71,mv 14 72] [12,13,14]
 .ret)
 .skip))
 (.seq (ae [lm 73 6 18,i1 74 (.call 157 [(.t 73),(.c (.str [80,97,103,101]))])] [3,4,5,6,12,16,18,74]
 (.cond (.t 74) (.seq (.bJ (some 10) [mv 75 16,mv 76 3,ia 77 jv 75 76,ld 78 1 77,mv 79 4,fa 80 0 18,lm 81 4 80,mv 82 5,c2 83 158 81 82,i1 84 (.build Fz [(0,1,(.t 78)),(1,1,(.t 79)),(2,4,(.t 83))]),st 6 12 84,mi 13 0,mi 14 0] [12,13,14])
 .ret)
 .skip))
 (ae [lm 86 6 18,c1 87 104 86,gi 85 87,ex 88 85 0,ex 89 85 1,ex 90 85 2,mv 21 88,mt 22 89,mv 23 90] [3,4,5,6,12,16,18,21,23]
 (.seq (ae [mv 91 23,no 92 91,mv 93 92,df 94 21 93 false,ju 95 93 false .neq 94 1,po 96 93 95] [3,4,5,6,12,16,18,96]
 (.cond (.t 96) (ae [i1 97 (.build Fz []),st 6 12 97,mi 13 0,mi 14 24] [12,13,14]
 .ret)
 .skip))
 (.seq (.bJ (some 12) [lm 98 6 6,mv 99 16,mv 100 3,ia 101 jv 99 100,ld 102 1 101,lm 103 6 18,mv 104 4,mv 105 5,i1 106 (.call 105 [(.t 98),(.t 102),(.t 103),(.c (.int .i64 0)),(.t 104),(.t 105)]),ex 107 106 0,ex 108 106 1,ex 109 106 2,st 6 12 107,mv 13 108,mv 14 109] [12,13,14])
 .ret))))))
 .skip))
 (.join [(12,false)] (ae [mi 24 0] [3,4,5,6,12,16,24]
 (.block 0 (.loop [(3,false),(4,false),(5,false),(6,false),(12,false),(16,true),(24,false)] (.seq (ae [mv 110 24,mv 111 16,le 112 0 111,bt 113 .lss 110 112] [3,4,5,6,12,16,24,113]
 (.cond (.t 113) .skip
 (.exit 0)))
 (.seq (.block 1 (.seq (.oG [25] 14 [lm 117 6 6,mv 118 16,mv 119 24,ia 120 jv 118 119,ld 121 1 120,c2 122 106 117 121,gi 116 122,ex 123 116 0,ex 124 116 1,ex 125 116 2,i1 25 (.an qR),st 6 25 123,mv 26 124,mv 27 125] [3,4,5,6,12,16,24,25,26,27])
 (.seq (ae [mv 126 27,bn 127 .neq 126 0] [3,4,5,6,12,16,24,25,26,27,127]
 (.cond (.t 127) (ae [i1 128 (.build Fz []),mv 129 26,mv 130 27,st 6 12 128,mv 13 129,mv 14 130] [12,13,14]
 .ret)
 .skip))
 (ae [lm 132 6 25,c1 133 104 132,gi 131 133,ex 134 131 0,ex 135 131 1,ex 136 131 2,mv 28 134,mt 29 135,mv 30 136] [3,4,5,6,12,16,24,25,28,30]
 (.seq (ae [mv 137 30,no 138 137] [3,4,5,6,12,16,24,25,28,138]
 (.cond (.t 138) (ae [i1 139 (.build Fz []),st 6 12 139,mi 13 0,mi 14 24] [12,13,14]
 .ret)
 .skip))
 (.seq (ae [mv 140 3,mv 141 28,bt 142 .lss 140 141] [3,4,5,6,12,16,24,25,28,142]
 (.cond (.t 142) (.seq (.bJ (some 13) [lm 143 6 6,mv 144 16,mv 145 24,ia 146 jv 144 145,ld 147 1 146,lm 148 6 25,mv 149 3,mv 150 4,mv 151 5,i1 152 (.call 105 [(.t 143),(.t 147),(.t 148),(.t 149),(.t 150),(.t 151)]),ex 153 152 0,ex 154 152 1,ex 155 152 2,st 6 12 153,mv 13 154,mv 14 155] [12,13,14])
 .ret)
 .skip))
 (.bJ none [mv 156 3,mv 157 28,bt 158 .sub 156 157,mv 3 158] [3,4,5,6,12,16,24])))))))
 (.bJ none [mv 114 24,bn 115 .add 114 1,mv 24 115] [3,4,5,6,12,16,24]))))))
 (ae [i1 159 (.build Fz []),st 6 12 159,mi 13 0,mi 14 24] [12,13,14]
 .ret))))))))
theorem JR:aE prog 105 160 [⟨12,false,some (6,true)⟩,⟨13,true,none⟩,⟨14,true,none⟩] yH=true:=by kernel_rfl
theorem KA{fuel:Nat}:∀{f_0:dH}{n_1:Int}{o_2:af}{p_3:Int}{iM:(List Int)}{mz:(List aa)}{s:ab}{Q:List AV->ab->Prop},ok (dq fuel f_0 n_1 o_2 p_3 iM mz) (fun r=>Q [.agg [.int .i64 r.1.cQ,sF 1 r.1.Path,.int .i64 r.1.ag.Kind,.int .i64 r.1.ag.N,.str r.1.ag.S.b,sF 4 r.1.ag.L],.int .i64 r.2.1,.int .i64 r.2.2] s)->FN prog 105 [.agg [.bool true,sF 6 f_0.ak,sF 1 f_0.Bytes.B,sF 1 f_0.Bytes.lh,sF 1 f_0.Table.de,.int .i64 f_0.Table.cM],.int .i64 n_1,.agg [.int .i64 o_2.V.Kind,.int .i64 o_2.V.N,.str o_2.V.S.b,sF 4 o_2.V.L,.bool o_2.Stream,.str o_2.Data.b],.int .i64 p_3,sF 1 iM,sF 4 mz] s Q:=by
 induction fuel with
 |zero=>intros;rename_i h;rw[dq]at h;exact absurd h (by rw[ok_none];exact fun h=>h)
 |succ fuel ih=>
 have AW:∀{f_0:dH}{n_1:Int}{o_2:af}{p_3:Int}{iM:(List Int)}{mz:(List aa)}{s:ab}{r:bH×Int×Int},dq fuel f_0 n_1 o_2 p_3 iM mz=some r->FE prog 105 [.agg [.bool true,sF 6 f_0.ak,sF 1 f_0.Bytes.B,sF 1 f_0.Bytes.lh,sF 1 f_0.Table.de,.int .i64 f_0.Table.cM],.int .i64 n_1,.agg [.int .i64 o_2.V.Kind,.int .i64 o_2.V.N,.str o_2.V.S.b,sF 4 o_2.V.L,.bool o_2.Stream,.str o_2.Data.b],.int .i64 p_3,sF 1 iM,sF 4 mz] s [.agg [.int .i64 r.1.cQ,sF 1 r.1.Path,.int .i64 r.1.ag.Kind,.int .i64 r.1.ag.N,.str r.1.ag.S.b,sF 4 r.1.ag.L],.int .i64 r.2.1,.int .i64 r.2.2] s:=fun h=>ih ⟨_,h,rfl,rfl⟩
 intro f_0 n_1 o_2 p_3 iM mz s Q
 intro h
 refine FO JR rfl rfl ?_
 revert h
 rw[yH,dq]
 repeat'(first
  |with_reducible exact bW
  |((with_reducible refine Jc ?_ ?_);exact rfl)
  |(with_reducible first|refine bj ?_ ?_|refine ch ?_|refine ah (fun _(h:dp o_2=some _)=>kd h) (fun r1=>?_)|refine ba (fun _(h:eD f_0 (ix r1.2.1 p_3)=some _)=>mo h) (fun _=>rfl) (fun r2=>?_)|refine ah (fun _(h:dY r2.1 (ar.mk [80,97,103,101])=some _)=>qn h) (fun r3=>?_)|refine ba (fun _(h:jH r2.1.V (mz++[o_2.V])=some _)=>(by refine gL ?_ (Ip h);simp -implicitDefEqProofs only[go_sem,seval])) (fun _=>rfl) (fun r4=>?_)|refine ah (fun _(h:dp r2.1=some _)=>kd h) (fun r5=>?_)|refine ba (fun _(h:dq fuel f_0 (ix r1.2.1 p_3) r2.1 0 (iM++[n_1]) (mz++[o_2.V])=some _)=>(by refine gL ?_ (AW h);simp -implicitDefEqProofs only[go_sem,seval])) (fun _=>rfl) (fun r6=>?_)|refine ba (fun _(h:eD f_0 (ix r1.2.1 k12)=some _)=>mo h) (fun _=>rfl) (fun r17=>?_)|refine ah (fun _(h:dp r17.1=some _)=>kd h) (fun r18=>?_)|refine ba (fun _(h:dq fuel f_0 (ix r1.2.1 k12) r17.1 p11 (iM++[n_1]) (mz++[o_2.V])=some _)=>(by refine gL ?_ (AW h);simp -implicitDefEqProofs only[go_sem,seval])) (fun _=>rfl) (fun r19=>?_))
  |((with_reducible refine aY (fun((p11,k12):Int×Int)=>⟨[(3,.int .i64 p11),(4,sT 1 (iM++[n_1])),(5,sT 4 (mz++[o_2.V])),(6,.loc [.bool true,sF 6 f_0.ak,sF 1 f_0.Bytes.B,sF 1 f_0.Bytes.lh,sF 1 f_0.Table.de,.int .i64 f_0.Table.cM]),(12,.loc [.int .i64 0,.sl true 1 0 [],.int .i64 0,.int .i64 0,.str (ar.mk []).b,.sl true 4 0 []]),(16,sF 1 r1.2.1),(24,.int .i64 k12)],[],s⟩) ?_ ?_);(first|exact rfl|simp -implicitDefEqProofs only[go_sem,seval]);rintro J ⟨p11,k12⟩)
  |((with_reducible refine dD (fun(_:Unit)=>⟨[(12,.loc [.int .i64 0,.sl true 1 0 [],.int .i64 0,.int .i64 0,.str (ar.mk []).b,.sl true 4 0 []])],[],s⟩) (fun J=>?_) ?_);rotate_left;rintro _)
  |simp -implicitDefEqProofs only[go_sem,seval])
theorem Kz{fuel:Nat}{f_0 n_1 o_2 p_3 iM mz}{s:ab}{r:bH×Int×Int}(h:dq fuel f_0 n_1 o_2 p_3 iM mz=some r):FE prog 105 [.agg [.bool true,sF 6 f_0.ak,sF 1 f_0.Bytes.B,sF 1 f_0.Bytes.lh,sF 1 f_0.Table.de,.int .i64 f_0.Table.cM],.int .i64 n_1,.agg [.int .i64 o_2.V.Kind,.int .i64 o_2.V.N,.str o_2.V.S.b,sF 4 o_2.V.L,.bool o_2.Stream,.str o_2.Data.b],.int .i64 p_3,sF 1 iM,sF 4 mz] s [.agg [.int .i64 r.1.cQ,sF 1 r.1.Path,.int .i64 r.1.ag.Kind,.int .i64 r.1.ag.N,.str r.1.ag.S.b,sF 4 r.1.ag.L],.int .i64 r.2.1,.int .i64 r.2.2] s:=KA ⟨r,h,rfl,rfl⟩
def jG(f_0:dH)(p_1:Int):Option (bH×Int×Int):=
 aJ (jd f_0) fun r1=>
 if r1.2.2.2 !=0 then
  some ((bH.mk 0 ([]:List Int) (aa.mk 0 0 (ar.mk []) ([]:List aa))),r1.2.2.1,r1.2.2.2)
 else
  aJ (dp r1.2.1) fun r2=>
  if(decide (p_1<0))||(decide (p_1>=r2.1))then
   some ((bH.mk 0 ([]:List Int) (aa.mk 0 0 (ar.mk []) ([]:List aa))),0,25)
  else
   aJ (dq iu f_0 r1.1 r1.2.1 p_1 ([]:List Int) ([]:List aa)) fun r3=>
   some (r3.1,r3.2.1,r3.2.2)
def yF:IC:=
 (ae [i1 2 (.b8 6 (.t 0)),i1 4 (.an Fz),mi 5 0,mi 6 0] [1,2,4]
 (ae [lm 15 6 2,c1 16 103 15,gi 14 16,ex 17 14 0,ex 18 14 1,ex 19 14 2,ex 20 14 3,i1 8 (.an qR),mv 7 17,st 6 8 18,mv 9 19,mv 10 20] [1,2,4,7,8,9,10]
 (.seq (ae [mv 21 10,bn 22 .neq 21 0] [1,2,4,7,8,9,10,22]
 (.cond (.t 22) (ae [i1 23 (.build Fz []),mv 24 9,mv 25 10,st 6 4 23,mv 5 24,mv 6 25] [4,5,6]
 .ret)
 .skip))
 (ae [lm 27 6 8,c1 28 104 27,gi 26 28,ex 29 26 0,ex 30 26 1,ex 31 26 2,mv 11 29,mt 12 30,mv 13 31] [1,2,4,7,8,11]
 (.seq (ae [mv 32 1,bn 33 .lss 32 0,mv 34 33,df 35 1 34 false,df 36 11 34 false,rF 37 34 false .geq 35 36,po 38 34 37] [1,2,4,7,8,38]
 (.cond (.t 38) (ae [i1 39 (.build Fz []),st 6 4 39,mi 5 0,mi 6 25] [4,5,6]
 .ret)
 .skip))
 (ae [lm 40 6 2,mv 41 7,lm 42 6 8,mv 43 1,i1 44 (.call 105 [(.t 40),(.t 41),(.t 42),(.t 43),(.c (.sl true 1 0 [])),(.c (.sl true 4 0 []))]),ex 45 44 0,ex 46 44 1,ex 47 44 2,st 6 4 45,mv 5 46,mv 6 47] [4,5,6]
 .ret))))))
theorem JP:aE prog 49 48 [⟨4,false,some (6,true)⟩,⟨5,true,none⟩,⟨6,true,none⟩] yF=true:=by kernel_rfl
theorem Kx{f_0 p_1}{s:ab}{Q:List AV->ab->Prop}:ok (jG f_0 p_1) (fun r=>Q [.agg [.int .i64 r.1.cQ,sF 1 r.1.Path,.int .i64 r.1.ag.Kind,.int .i64 r.1.ag.N,.str r.1.ag.S.b,sF 4 r.1.ag.L],.int .i64 r.2.1,.int .i64 r.2.2] s)->FN prog 49 [.agg [.bool true,sF 6 f_0.ak,sF 1 f_0.Bytes.B,sF 1 f_0.Bytes.lh,sF 1 f_0.Table.de,.int .i64 f_0.Table.cM],.int .i64 p_1] s Q:=by
 intro h
 refine FO JP rfl rfl ?_
 revert h
 rw[yF,jG]
 repeat'(first
  |(with_reducible first|exact bW|refine bj ?_ ?_|refine ch ?_|refine ah (fun _(h:jd f_0=some _)=>NG h) (fun r1=>?_)|refine ah (fun _(h:dp r1.2.1=some _)=>kd h) (fun r2=>?_)|refine ah (fun _(h:dq iu f_0 r1.1 r1.2.1 p_1 ([]:List Int) ([]:List aa)=some _)=>(by refine gL ?_ (Kz h);simp -implicitDefEqProofs only[go_sem,seval])) (fun r3=>?_))
  |simp -implicitDefEqProofs only[go_sem,seval])
theorem Kw{f_0 p_1}{s:ab}{r:bH×Int×Int}(h:jG f_0 p_1=some r):FE prog 49 [.agg [.bool true,sF 6 f_0.ak,sF 1 f_0.Bytes.B,sF 1 f_0.Bytes.lh,sF 1 f_0.Table.de,.int .i64 f_0.Table.cM],.int .i64 p_1] s [.agg [.int .i64 r.1.cQ,sF 1 r.1.Path,.int .i64 r.1.ag.Kind,.int .i64 r.1.ag.N,.str r.1.ag.S.b,sF 4 r.1.ag.L],.int .i64 r.2.1,.int .i64 r.2.2] s:=Kx ⟨r,h,rfl,rfl⟩
def iO(v_0:aa)(dc:ar):Option (aa):=
 aJ (fx v_0 dc) fun r1=>
 if decide (r1<0)then
  some v_0
 else
  aB (0<=(0:Int)/\0<=r1/\r1<=v_0.L.length)<|
  aB ((([]:List aa).length+(part v_0.L 0 r1).length)*56<=room)<|
  jn (
   if decide (bd (r1+2)<(v_0.L.length:Int))then
    aB (0<=bd (r1+2)/\bd (r1+2)<=(v_0.L.length:Int)/\(v_0.L.length:Int)<=v_0.L.length)<|
    aB (((part v_0.L 0 r1).length+(part v_0.L (bd (r1+2)) (v_0.L.length:Int)).length)*56<=room)<|
    some ((part v_0.L 0 r1)++(part v_0.L (bd (r1+2)) (v_0.L.length:Int)))
   else
    some (part v_0.L 0 r1)) fun(kb:(List aa))=>
  some (aa.mk v_0.Kind v_0.N v_0.S kb)
def yu:IC:=
 (ae [i1 2 (.b8 4 (.t 0)),i1 4 (.an gj)] [1,2,4]
 (ae [lm 7 4 2,mv 8 1,c2 9 82 7 8,mv 5 9] [2,4,5]
 (.seq (ae [mv 10 5,bn 11 .lss 10 0] [2,4,5,11]
 (.cond (.t 11) (ae [lm 12 4 2,st 4 4 12] [4]
 .ret)
 .skip))
 (ae [i1 13 (.aN 4 0 [] []),fa 14 3 2,ld 15 1 14,mv 16 5,OP 17 4 15 16,Ec 18 4 56 13 17,mt 6 18] [2,4,5,6]
 (.join [(2,false),(4,false),(6,false)] (ae [mv 19 5,bn 20 .add 19 2,fa 21 3 2,ld 22 1 21,le 23 0 22,bt 24 .lss 20 23] [2,4,5,6,24]
 (.cond (.t 24) (.bJ none [mt 25 6,fa 26 3 2,ld 27 1 26,mv 28 5,bn 29 .add 28 2,rG 30 4 27 29,Ec 31 4 56 25 30,mt 6 31] [2,4,6])
 .skip))
 (ae [mt 32 6,fa 33 3 2,st 1 33 32] [2,4]
 (ae [lm 34 4 2,st 4 4 34] [4]
 .ret)))))))
theorem JF:aE prog 54 35 [⟨4,false,some (4,true)⟩] yu=true:=by kernel_rfl
theorem Kg{v_0 dc}{s:ab}{Q:List AV->ab->Prop}:ok (iO v_0 dc) (fun r=>Q [oV r] s)->FN prog 54 [oV v_0,.str dc.b] s Q:=by
 intro h
 refine FO JF rfl rfl ?_
 revert h
 rw[yu,iO]
 repeat'(first
  |(with_reducible first|exact bW|refine bj ?_ ?_|refine ch ?_|refine ah (fun _(h:fx v_0 dc=some _)=>rI h) (fun r1=>?_))
  |((with_reducible refine bT (fun(kb:(List aa))=>⟨[(2,.loc [.int .i64 v_0.Kind,.int .i64 v_0.N,.str v_0.S.b,sF 4 v_0.L]),(4,.loc [.int .i64 0,.int .i64 0,.str (ar.mk []).b,.sl true 4 0 []]),(6,sT 4 kb)],[],s⟩) (fun J=>?_) ?_);rotate_left;rintro kb)
  |simp -implicitDefEqProofs only[go_sem,seval])
theorem yX{v_0 dc}{s:ab}{r:aa}(h:iO v_0 dc=some r):FE prog 54 [oV v_0,.str dc.b] s [oV r] s:=Kg ⟨r,h,rfl,rfl⟩
def ng(l_0:(List Int))(n_1:Int):Option (Bool):=
 yS (
  jY (
   iter (fun(k2:Int)=>
    if decide (k2<(l_0.length:Int))then
     aB (0<=k2/\k2<l_0.length)<|
     if(ix l_0 k2)==n_1 then
      some (.inr (.inr true))
     else
      some (.inl (bd (k2+1)))
    else
     some (.inr (.inl ()))) 0) (fun(_:Unit)=>
   some (.inl ()))
  (fun(t3:Bool)=>some (.inr t3))) (fun(_:Unit)=>
  some false)
 (fun(t1:Bool)=>some t1)
def A7:IC:=
 (ae [cZ 4 (.bool false)] [0,1]
 (.join [] (ae [mi 5 0] [0,1,5]
 (.block 0 (.loop [(0,true),(1,false),(5,false)] (.seq (ae [mv 6 5,mv 7 0,le 8 0 7,bt 9 .lss 6 8] [0,1,5,9]
 (.cond (.t 9) .skip
 (.exit 0)))
 (.seq (.block 1 (ae [mv 12 0,mv 13 5,ia 14 jv 12 13,ld 15 1 14,mv 16 1,bt 17 .eql 15 16] [0,1,5,17]
 (.cond (.t 17) (ae [cZ 4 (.bool true)] [4]
 .ret)
 .skip)))
 (.bJ none [mv 10 5,bn 11 .add 10 1,mv 5 11] [0,1,5]))))))
 (ae [cZ 4 (.bool false)] [4]
 .ret)))
theorem MN:aE prog 115 18 [⟨4,true,none⟩] A7=true:=by kernel_rfl
theorem NA{l_0 n_1}{s:ab}{Q:List AV->ab->Prop}:ok (ng l_0 n_1) (fun r=>Q [.bool r] s)->FN prog 115 [sF 1 l_0,.int .i64 n_1] s Q:=by
 intro h
 refine FO MN rfl rfl ?_
 revert h
 rw[A7,ng]
 repeat'(first
  |((with_reducible refine aY (fun(k2:Int)=>⟨[(0,sF 1 l_0),(1,.int .i64 n_1),(5,.int .i64 k2)],[],s⟩) ?_ ?_);(first|exact rfl|simp -implicitDefEqProofs only[go_sem,seval]);rintro J k2)
  |((with_reducible refine dD (fun(_:Unit)=>⟨[],[],s⟩) (fun J=>?_) ?_);rotate_left;rintro _)
  |simp -implicitDefEqProofs only[go_sem,seval])
theorem Nz{l_0 n_1}{s:ab}{r:Bool}(h:ng l_0 n_1=some r):FE prog 115 [sF 1 l_0,.int .i64 n_1] s [.bool r] s:=NA ⟨r,h,rfl,rfl⟩
def gz(v_0:aa):Option (Bool):=some ((v_0.Kind==6)||(v_0.Kind==7))
def vL:IC:=
 (ae [i1 1 (.b8 4 (.t 0)),cZ 2 (.bool false)] [1]
 (ae [fa 3 0 1,ld 4 1 3,bn 5 .eql 4 6,mv 6 5,fg 7 6 false 0 1,lg 8 6 false 1 7,ju 9 6 false .eql 8 7,po 10 6 9,mv 2 10] [2]
 .ret))
theorem Hf:aE prog 60 11 [⟨2,true,none⟩] vL=true:=by kernel_rfl
theorem Ii{v_0}{s:ab}{Q:List AV->ab->Prop}:ok (gz v_0) (fun r=>Q [.bool r] s)->FN prog 60 [oV v_0] s Q:=by
 intro h
 refine FO Hf rfl rfl ?_
 revert h
 rw[vL,gz]
 repeat'(first
  |simp -implicitDefEqProofs only[go_sem,seval])
theorem Ih{v_0}{s:ab}{r:Bool}(h:gz v_0=some r):FE prog 60 [oV v_0] s [.bool r] s:=Ii ⟨r,h,rfl,rfl⟩
def fV:Nat->(List Int)->aa->Option ((List Int))
 |0,_,_=>none
 |fuel+1,l_0,v_1=>
  aJ (mB (v_1.Kind==8) false (ng l_0 v_1.N)) fun r1=>
  if(v_1.Kind==8)&&(!r1)then
   aB ((([]:List Int).length+l_0.length)*8<=room)<|
   aB ((l_0.length+[v_1.N].length)*8<=room)<|
   some (l_0++[v_1.N])
  else
   jn (
    iter (fun((l3,k4):(List Int)×Int)=>
     aJ (gz v_1) fun r6=>
     if r6&&(decide (k4<(v_1.L.length:Int)))then
      aB (0<=k4/\k4<v_1.L.length)<|
      aJ (fV fuel l3 (ix v_1.L k4)) fun r7=>
      some (.inl (r7,bd (k4+1)))
     else
      some (.inr l3)) (l_0,0)) fun(l2:(List Int))=>
   some l2
def yA:IC:=
 (ae [i1 3 (.b8 4 (.t 1)),i1 4 (.ib true (.c (.sl true 1 0 [])))] [0,3]
 (.seq (.seq (.bJ (some 8) [fa 6 0 3,ld 7 1 6,bn 8 .eql 7 8,mv 9 8,df 10 0 9 true,fg 11 9 true 1 3,lg 12 9 true 1 11,qd2 13 9 true 115 10 12,du 14 9 true (.un .not (.t 13)),pf 15 9 14] [0,3,15])
 (.cond (.t 15) (.seq (.oG [] 8 [i1 16 (.aN 1 0 [] []),mt 17 0,Ec 18 1 8 16 17,fa 19 1 3,ld 20 1 19,i1 21 (.aN 1 1 jv [(0,1,(.t 20))]),Ec 22 1 8 18 21,mt 4 22] [4])
 .ret)
 .skip))
 (.join [(0,true)] (ae [mi 5 0] [0,3,5]
 (.block 0 (.loop [(0,true),(3,false),(5,false)] (.seq (ae [lm 23 4 3,c1 24 60 23,mv 25 24,df 26 5 25 true,fg 27 25 true 3 3,lg 28 25 true 1 27,du 29 25 true (.len 0 (.t 28)),rF 30 25 true .lss 26 29,pf 31 25 30] [0,3,5,31]
 (.cond (.t 31) .skip
 (.exit 0)))
 (.seq (.block 1 (.bJ none [mt 34 0,fa 35 3 3,ld 36 1 35,mv 37 5,ia 38 pr 36 37,lm 39 4 38,c2 40 59 34 39,mt 0 40] [0,3,5]))
 (.bJ none [mv 32 5,bn 33 .add 32 1,mv 5 33] [0,3,5]))))))
 (ae [mt 41 0,mt 4 41] [4]
 .ret))))
theorem JK:aE prog 59 42 [⟨4,false,none⟩] yA=true:=by kernel_rfl
theorem Ko{fuel:Nat}:∀{l_0:(List Int)}{v_1:aa}{s:ab}{Q:List AV->ab->Prop},ok (fV fuel l_0 v_1) (fun r=>Q [sF 1 r] s)->FN prog 59 [sF 1 l_0,oV v_1] s Q:=by
 induction fuel with
 |zero=>intros;rename_i h;rw[fV]at h;exact absurd h (by rw[ok_none];exact fun h=>h)
 |succ fuel ih=>
 have AW:∀{l_0:(List Int)}{v_1:aa}{s:ab}{r:(List Int)},fV fuel l_0 v_1=some r->FE prog 59 [sF 1 l_0,oV v_1] s [sF 1 r] s:=fun h=>ih ⟨_,h,rfl,rfl⟩
 intro l_0 v_1 s Q
 intro h
 refine FO JK rfl rfl ?_
 revert h
 rw[yA,fV]
 repeat'(first
  |(with_reducible first|exact bW|refine bj ?_ ?_|refine ch ?_|refine fP rfl (fun _(h:ng l_0 v_1.N=some _)=>Nz h) (fun _=>rfl) (fun r1=>?_)|refine ah (fun _(h:gz v_1=some _)=>Ih h) (fun r6=>?_)|refine ah (fun _(h:fV fuel l3 (ix v_1.L k4)=some _)=>AW h) (fun r7=>?_))
  |((with_reducible refine aY (fun((l3,k4):(List Int)×Int)=>⟨[(0,sF 1 l3),(3,.loc [.int .i64 v_1.Kind,.int .i64 v_1.N,.str v_1.S.b,sF 4 v_1.L]),(5,.int .i64 k4)],[],s⟩) ?_ ?_);(first|exact rfl|simp -implicitDefEqProofs only[go_sem,seval]);rintro J ⟨l3,k4⟩)
  |((with_reducible refine bT (fun(l2:(List Int))=>⟨[(0,sF 1 l2)],[],s⟩) (fun J=>?_) ?_);rotate_left;rintro l2)
  |simp -implicitDefEqProofs only[go_sem,seval])
theorem Kn{fuel:Nat}{l_0 v_1}{s:ab}{r:(List Int)}(h:fV fuel l_0 v_1=some r):FE prog 59 [sF 1 l_0,oV v_1] s [sF 1 r] s:=Ko ⟨r,h,rfl,rfl⟩
def nf(v_0:aa):Option ((List Int)):=
 aJ (fV iu ([]:List Int) v_0) fun r1=>
 some r1
def yx:IC:=
 (ae [i1 1 (.b8 4 (.t 0)),i1 2 (.ib true (.c (.sl true 1 0 [])))] [1]
 (ae [lm 3 4 1,i1 4 (.call 59 [(.c (.sl true 1 0 [])),(.t 3)]),mt 2 4] [2]
 .ret))
theorem JH:aE prog 26 5 [⟨2,false,none⟩] yx=true:=by kernel_rfl
theorem Kj{v_0}{s:ab}{Q:List AV->ab->Prop}:ok (nf v_0) (fun r=>Q [sF 1 r] s)->FN prog 26 [oV v_0] s Q:=by
 intro h
 refine FO JH rfl rfl ?_
 revert h
 rw[yx,nf]
 repeat'(first
  |with_reducible refine ah (fun _(h:fV iu ([]:List Int) v_0=some _)=>(by refine gL ?_ (Kn h);simp -implicitDefEqProofs only[go_sem,seval])) (fun r1=>?_)
  |simp -implicitDefEqProofs only[go_sem,seval])
theorem Ki{v_0}{s:ab}{r:(List Int)}(h:nf v_0=some r):FE prog 26 [oV v_0] s [sF 1 r] s:=Kj ⟨r,h,rfl,rfl⟩
def gH(v_0:aa):Option ((List Int)):=
 aJ (nf v_0) fun r1=>
 jn (
  iter (fun((jt,k4):(List Int)×Int)=>
   if decide (k4<(r1.length:Int))then
    jn (
     aB (0<=k4/\k4<r1.length)<|
     aB ((decide (ix r1 k4>=1))=true->0<=k4/\k4<r1.length)<|
     if(decide (ix r1 k4>=1))&&(decide (ix r1 k4<=4096))then
      aB (0<=k4/\k4<r1.length)<|
      aB ((jt.length+[ix r1 k4].length)*8<=room)<|
      some (jt++[ix r1 k4])
     else
      some jt) fun(Nl:(List Int))=>
    some (.inl (Nl,bd (k4+1)))
   else
    some (.inr jt)) (([]:List Int),0)) fun(fZ:(List Int))=>
 some fZ
def yI:IC:=
 (ae [i1 1 (.b8 4 (.t 0)),i1 2 (.ib true (.c (.sl true 1 0 [])))] [1]
 (ae [i1 3 (.ib true (.c (.sl true 1 0 [])))] [1,3]
 (ae [lm 6 4 1,c1 7 26 6,mt 4 7] [3,4]
 (.join [(3,false)] (ae [mi 5 0] [3,4,5]
 (.block 0 (.loop [(3,false),(4,true),(5,false)] (.seq (ae [mv 8 5,mv 9 4,le 10 0 9,bt 11 .lss 8 10] [3,4,5,11]
 (.cond (.t 11) .skip
 (.exit 0)))
 (.join [(3,false),(4,true),(5,false)] (.block 1 (ae [mv 14 4,mv 15 5,ia 16 jv 14 15,ld 17 1 16,bn 18 .geq 17 1,mv 19 18,df 20 4 19 true,df 21 5 19 true,du 22 19 true (.indexAddr jv (.t 20) (.t 21)),lg 23 19 true 1 22,ju 24 19 true .leq 23 4096,pf 25 19 24] [3,4,5,25]
 (.cond (.t 25) (.bJ none [mt 26 3,mv 27 4,mv 28 5,ia 29 jv 27 28,ld 30 1 29,i1 31 (.aN 1 1 jv [(0,1,(.t 30))]),Ec 32 1 8 26 31,mt 3 32] [3,4,5])
 .skip)))
 (.bJ none [mv 12 5,bn 13 .add 12 1,mv 5 13] [3,4,5]))))))
 (ae [mt 33 3,mt 2 33] [2]
 .ret)))))
theorem JS:aE prog 109 34 [⟨2,true,none⟩] yI=true:=by kernel_rfl
theorem KB{v_0}{s:ab}{Q:List AV->ab->Prop}:ok (gH v_0) (fun r=>Q [sT 1 r] s)->FN prog 109 [oV v_0] s Q:=by
 intro h
 refine FO JS rfl rfl ?_
 revert h
 rw[yI,gH]
 repeat'(first
  |(with_reducible first|exact bW|refine bj ?_ ?_|refine ch ?_|refine ah (fun _(h:nf v_0=some _)=>Ki h) (fun r1=>?_))
  |((with_reducible refine bT (live:=[(3,false),(4,true),(5,false)]) (fun(Nl:(List Int))=>⟨[(3,sT 1 Nl),(4,sF 1 r1),(5,.int .i64 k4)],[],s⟩) (fun J=>?_) ?_);rotate_left;rintro Nl)
  |((with_reducible refine aY (fun((jt,k4):(List Int)×Int)=>⟨[(3,sT 1 jt),(4,sF 1 r1),(5,.int .i64 k4)],[],s⟩) ?_ ?_);(first|exact rfl|simp -implicitDefEqProofs only[go_sem,seval]);rintro J ⟨jt,k4⟩)
  |((with_reducible refine bT (live:=[(3,false)]) (fun(fZ:(List Int))=>⟨[(3,sT 1 fZ)],[],s⟩) (fun J=>?_) ?_);rotate_left;rintro fZ)
  |simp -implicitDefEqProofs only[go_sem,seval])
theorem rJ{v_0}{s:ab}{r:(List Int)}(h:gH v_0=some r):FE prog 109 [oV v_0] s [sT 1 r] s:=KB ⟨r,h,rfl,rfl⟩
def pB(l_0:(List Int))(n_1:Int):Option (Bool):=
 yS (
  jY (
   iter (fun(k2:Int)=>
    if decide (k2<(l_0.length:Int))then
     aB (0<=k2/\k2<l_0.length)<|
     if(ix l_0 k2)==n_1 then
      some (.inr (.inr true))
     else
      some (.inl (bd (k2+1)))
    else
     some (.inr (.inl ()))) 0) (fun(_:Unit)=>
   some (.inl ()))
  (fun(t3:Bool)=>some (.inr t3))) (fun(_:Unit)=>
  some false)
 (fun(t1:Bool)=>some t1)
def Bc:IC:=
 (ae [cZ 4 (.bool false)] [0,1]
 (.join [] (ae [mi 5 0] [0,1,5]
 (.block 0 (.loop [(0,true),(1,false),(5,false)] (.seq (ae [mv 6 5,mv 7 0,le 8 0 7,bt 9 .lss 6 8] [0,1,5,9]
 (.cond (.t 9) .skip
 (.exit 0)))
 (.seq (.block 1 (ae [mv 12 0,mv 13 5,ia 14 jv 12 13,ld 15 1 14,mv 16 1,bt 17 .eql 15 16] [0,1,5,17]
 (.cond (.t 17) (ae [cZ 4 (.bool true)] [4]
 .ret)
 .skip)))
 (.bJ none [mv 10 5,bn 11 .add 10 1,mv 5 11] [0,1,5]))))))
 (ae [cZ 4 (.bool false)] [4]
 .ret)))
theorem MS:aE prog 163 18 [⟨4,true,none⟩] Bc=true:=by kernel_rfl
theorem NJ{l_0 n_1}{s:ab}{Q:List AV->ab->Prop}:ok (pB l_0 n_1) (fun r=>Q [.bool r] s)->FN prog 163 [sF 1 l_0,.int .i64 n_1] s Q:=by
 intro h
 refine FO MS rfl rfl ?_
 revert h
 rw[Bc,pB]
 repeat'(first
  |((with_reducible refine aY (fun(k2:Int)=>⟨[(0,sF 1 l_0),(1,.int .i64 n_1),(5,.int .i64 k2)],[],s⟩) ?_ ?_);(first|exact rfl|simp -implicitDefEqProofs only[go_sem,seval]);rintro J k2)
  |((with_reducible refine dD (fun(_:Unit)=>⟨[],[],s⟩) (fun J=>?_) ?_);rotate_left;rintro _)
  |simp -implicitDefEqProofs only[go_sem,seval])
theorem NI{l_0 n_1}{s:ab}{r:Bool}(h:pB l_0 n_1=some r):FE prog 163 [sF 1 l_0,.int .i64 n_1] s [.bool r] s:=NJ ⟨r,h,rfl,rfl⟩
def jI(l_0:(List Int))(kP:(List Int)):Option ((List Int)):=
 aB ((([]:List Int).length+l_0.length)*8<=room)<|
 jn (
  iter (fun((fZ,k3):(List Int)×Int)=>
   if decide (k3<(kP.length:Int))then
    jn (
     aB (0<=k3/\k3<kP.length)<|
     aJ (pB fZ (ix kP k3)) fun r8=>
     if !r8 then
      aB (0<=k3/\k3<kP.length)<|
      aB ((fZ.length+[ix kP k3].length)*8<=room)<|
      some (fZ++[ix kP k3])
     else
      some fZ) fun(Nl:(List Int))=>
    some (.inl (Nl,bd (k3+1)))
   else
    some (.inr fZ)) (l_0,0)) fun(ZX:(List Int))=>
 some ZX
def D0:IC:=
 (ae [i1 4 (.ib true (.c (.sl true 1 0 [])))] [0,1]
 (ae [i1 7 (.aN 1 0 [] []),mt 8 0,Ec 9 1 8 7 8,mt 5 9] [1,5]
 (.join [(5,false)] (ae [mi 6 0] [1,5,6]
 (.block 0 (.loop [(1,true),(5,false),(6,false)] (.seq (ae [mv 10 6,mv 11 1,le 12 0 11,bt 13 .lss 10 12] [1,5,6,13]
 (.cond (.t 13) .skip
 (.exit 0)))
 (.join [(1,true),(5,false),(6,false)] (.block 1 (ae [mv 16 5,mv 17 1,mv 18 6,ia 19 jv 17 18,ld 20 1 19,c2 21 163 16 20,no 22 21] [1,5,6,22]
 (.cond (.t 22) (.bJ none [mt 23 5,mv 24 1,mv 25 6,ia 26 jv 24 25,ld 27 1 26,i1 28 (.aN 1 1 jv [(0,1,(.t 27))]),Ec 29 1 8 23 28,mt 5 29] [1,5,6])
 .skip)))
 (.bJ none [mv 14 6,bn 15 .add 14 1,mv 6 15] [1,5,6]))))))
 (ae [mt 30 5,mt 4 30] [4]
 .ret))))
theorem PY:aE prog 107 31 [⟨4,true,none⟩] D0=true:=by kernel_rfl
theorem QF{l_0 kP}{s:ab}{Q:List AV->ab->Prop}:ok (jI l_0 kP) (fun r=>Q [sT 1 r] s)->FN prog 107 [sF 1 l_0,sF 1 kP] s Q:=by
 intro h
 refine FO PY rfl rfl ?_
 revert h
 rw[D0,jI]
 repeat'(first
  |(with_reducible first|exact bW|refine bj ?_ ?_|refine ch ?_|refine ah (fun _(h:pB fZ (ix kP k3)=some _)=>NI h) (fun r8=>?_))
  |((with_reducible refine bT (live:=[(1,true),(5,false),(6,false)]) (fun(Nl:(List Int))=>⟨[(1,sF 1 kP),(5,sT 1 Nl),(6,.int .i64 k3)],[],s⟩) (fun J=>?_) ?_);rotate_left;rintro Nl)
  |((with_reducible refine aY (fun((fZ,k3):(List Int)×Int)=>⟨[(1,sF 1 kP),(5,sT 1 fZ),(6,.int .i64 k3)],[],s⟩) ?_ ?_);(first|exact rfl|simp -implicitDefEqProofs only[go_sem,seval]);rintro J ⟨fZ,k3⟩)
  |((with_reducible refine bT (live:=[(5,false)]) (fun(ZX:(List Int))=>⟨[(5,sT 1 ZX)],[],s⟩) (fun J=>?_) ?_);rotate_left;rintro ZX)
  |simp -implicitDefEqProofs only[go_sem,seval])
theorem wO{l_0 kP}{s:ab}{r:(List Int)}(h:jI l_0 kP=some r):FE prog 107 [sF 1 l_0,sF 1 kP] s [sT 1 r] s:=QF ⟨r,h,rfl,rfl⟩
def lC(v_0:aa)(gw:aa):Option ((List Int)):=
 aJ (iO v_0 (ar.mk [80,97,114,101,110,116])) fun r1=>
 aJ (gH r1) fun r2=>
 aJ (gH gw) fun r3=>
 aJ (jI r2 r3) fun r4=>
 some r4
def vR:IC:=
 (ae [i1 2 (.b8 4 (.t 0)),i1 3 (.b8 4 (.t 1)),i1 4 (.ib true (.c (.sl true 1 0 [])))] [2,3]
 (.seq (.bJ (some 7) [lm 5 4 2,i1 6 (.call 54 [(.t 5),(.c (.str [80,97,114,101,110,116]))]),c1 7 109 6,lm 8 4 3,c1 9 109 8,c2 10 107 7 9,mv 4 10] [4])
 .ret))
theorem Hl:aE prog 108 11 [⟨4,false,none⟩] vR=true:=by kernel_rfl
theorem Iv{v_0 gw}{s:ab}{Q:List AV->ab->Prop}:ok (lC v_0 gw) (fun r=>Q [sF 1 r] s)->FN prog 108 [oV v_0,oV gw] s Q:=by
 intro h
 refine FO Hl rfl rfl ?_
 revert h
 rw[vR,lC]
 repeat'(first
  |(with_reducible first|refine ba (fun _(h:iO v_0 (ar.mk [80,97,114,101,110,116])=some _)=>yX h) (fun _=>rfl) (fun r1=>?_)|refine ba (fun _(h:gH r1=some _)=>rJ h) (fun _=>rfl) (fun r2=>?_)|refine ba (fun _(h:gH gw=some _)=>rJ h) (fun _=>rfl) (fun r3=>?_)|refine ba (fun _(h:jI r2 r3=some _)=>wO h) (fun _=>rfl) (fun r4=>?_))
  |simp -implicitDefEqProofs only[go_sem,seval])
theorem Iu{v_0 gw}{s:ab}{r:(List Int)}(h:lC v_0 gw=some r):FE prog 108 [oV v_0,oV gw] s [sF 1 r] s:=Iv ⟨r,h,rfl,rfl⟩
def fM(f_0:dH)(l_1:bH):Option ((List Int)×(List af)×Int×Int):=
 yS (
  jY (
   iter (fun((E1,Sq,k9):(List Int)×(List af)×Int)=>
    if decide (k9<(E1.length:Int))then
     aB (0<=k9/\k9<E1.length)<|
     aJ (eD f_0 (ix E1 k9)) fun r16=>
     if r16.2.2 !=0 then
      some (.inr (.inr (([]:List Int),([]:List af),r16.2.1,r16.2.2)))
     else
      jn (
       if k9==0 then
        aJ (lC r16.1.V l_1.ag) fun r23=>
        aJ (jI E1 r23) fun r24=>
        some r24
       else
        aJ (gH r16.1.V) fun r25=>
        aJ (jI E1 r25) fun r26=>
        some r26) fun(TU:(List Int))=>
      aB ((Sq.length+[r16.1].length)*80<=room)<|
      some (.inl (TU,Sq++[r16.1],bd (k9+1)))
    else
     some (.inr (.inl (E1,Sq)))) ([l_1.cQ],([]:List af),0)) (fun((aim,lu):(List Int)×(List af))=>
   some (.inl (aim,lu)))
  (fun((t12,t13,t14,t15):(List Int)×(List af)×Int×Int)=>some (.inr (t12,t13,t14,t15)))) (fun((z8,fZ):(List Int)×(List af))=>
  some (z8,fZ,0,0))
 (fun((t3,t4,t5,t6):(List Int)×(List af)×Int×Int)=>some (t3,t4,t5,t6))
def su:IC:=
 (ae [i1 2 (.b8 6 (.t 0)),i1 3 (.b8 6 (.t 1)),i1 4 (.ib true (.c (.sl true 1 0 []))),i1 5 (.ib true (.c (.sl true 6 0 []))),mi 6 0,mi 7 0] [2,3]
 (ae [fa 14 0 3,ld 15 1 14,i1 16 (.aN 1 1 jv [(0,1,(.t 15))]),mt 8 16] [2,3,8]
 (ae [i1 9 (.ib true (.c (.sl true 6 0 [])))] [2,3,8,9]
 (.join [(8,false),(9,false)] (ae [mi 10 0] [2,3,8,9,10]
 (.block 0 (.loop [(2,false),(3,false),(8,false),(9,false),(10,false)] (.seq (ae [mv 17 10,mv 18 8,le 19 0 18,bt 20 .lss 17 19] [2,3,8,9,10,20]
 (.cond (.t 20) .skip
 (.exit 0)))
 (.seq (.block 1 (.seq (.oG [11] 14 [lm 24 6 2,mv 25 8,mv 26 10,ia 27 jv 25 26,ld 28 1 27,c2 29 106 24 28,gi 23 29,ex 30 23 0,ex 31 23 1,ex 32 23 2,i1 11 (.an qR),st 6 11 30,mv 12 31,mv 13 32] [2,3,8,9,10,11,12,13])
 (.seq (ae [mv 33 13,bn 34 .neq 33 0] [2,3,8,9,10,11,12,13,34]
 (.cond (.t 34) (ae [mv 35 12,mv 36 13,i1 4 (.ib true (.c (.sl true 1 0 []))),i1 5 (.ib true (.c (.sl true 6 0 []))),mv 6 35,mv 7 36] [4,5,6,7]
 .ret)
 .skip))
 (.join [(2,false),(3,false),(8,false),(9,false),(10,false),(11,false)] (ae [mv 37 10,bn 38 .eql 37 0] [2,3,8,9,10,11,38]
 (.cond (.t 38) (.bJ none [mt 39 8,fa 40 0 11,lm 41 4 40,fa 42 2 3,lm 43 4 42,c2 44 108 41 43,c2 45 107 39 44,mt 8 45] [2,3,8,9,10,11])
 (.bJ none [mt 46 8,fa 47 0 11,lm 48 4 47,c1 49 109 48,c2 50 107 46 49,mt 8 50] [2,3,8,9,10,11])))
 (.bJ none [mt 51 9,lm 52 6 11,i1 53 (.aN 6 1 qR [(0,6,(.t 52))]),Ec 54 6 80 51 53,mt 9 54] [2,3,8,9,10])))))
 (.bJ none [mv 21 10,bn 22 .add 21 1,mv 10 22] [2,3,8,9,10]))))))
 (ae [mt 55 8,mt 56 9,mt 4 55,mt 5 56,mi 6 0,mi 7 0] [4,5,6,7]
 .ret)))))
theorem CG:aE prog 50 57 [⟨4,true,none⟩,⟨5,true,none⟩,⟨6,true,none⟩,⟨7,true,none⟩] su=true:=by kernel_rfl
theorem Dd{f_0 l_1}{s:ab}{Q:List AV->ab->Prop}:ok (fM f_0 l_1) (fun r=>Q [sT 1 r.1,sT 6 r.2.1,.int .i64 r.2.2.1,.int .i64 r.2.2.2] s)->FN prog 50 [.agg [.bool true,sF 6 f_0.ak,sF 1 f_0.Bytes.B,sF 1 f_0.Bytes.lh,sF 1 f_0.Table.de,.int .i64 f_0.Table.cM],.agg [.int .i64 l_1.cQ,sF 1 l_1.Path,.int .i64 l_1.ag.Kind,.int .i64 l_1.ag.N,.str l_1.ag.S.b,sF 4 l_1.ag.L]] s Q:=by
 intro h
 refine FO CG rfl rfl ?_
 revert h
 rw[su,fM]
 repeat'(first
  |with_reducible exact bW
  |((with_reducible refine Jc ?_ ?_);exact rfl)
  |(with_reducible first|refine bj ?_ ?_|refine ch ?_|refine ba (fun _(h:eD f_0 (ix E1 k9)=some _)=>mo h) (fun _=>rfl) (fun r16=>?_)|refine ah (fun _(h:lC r16.1.V l_1.ag=some _)=>Iu h) (fun r23=>?_)|refine ah (fun _(h:jI E1 r23=some _)=>wO h) (fun r24=>?_)|refine ah (fun _(h:gH r16.1.V=some _)=>rJ h) (fun r25=>?_)|refine ah (fun _(h:jI E1 r25=some _)=>wO h) (fun r26=>?_))
  |((with_reducible refine bT (live:=[(2,false),(3,false),(8,false),(9,false),(10,false),(11,false)]) (fun(TU:(List Int))=>⟨[(2,.loc [.bool true,sF 6 f_0.ak,sF 1 f_0.Bytes.B,sF 1 f_0.Bytes.lh,sF 1 f_0.Table.de,.int .i64 f_0.Table.cM]),(3,.loc [.int .i64 l_1.cQ,sF 1 l_1.Path,.int .i64 l_1.ag.Kind,.int .i64 l_1.ag.N,.str l_1.ag.S.b,sF 4 l_1.ag.L]),(8,sT 1 TU),(9,sT 6 Sq),(10,.int .i64 k9),(11,.loc [.int .i64 r16.1.V.Kind,.int .i64 r16.1.V.N,.str r16.1.V.S.b,sF 4 r16.1.V.L,.bool r16.1.Stream,.str r16.1.Data.b])],[],s⟩) (fun J=>?_) ?_);rotate_left;rintro TU)
  |((with_reducible refine aY (fun((E1,Sq,k9):(List Int)×(List af)×Int)=>⟨[(2,.loc [.bool true,sF 6 f_0.ak,sF 1 f_0.Bytes.B,sF 1 f_0.Bytes.lh,sF 1 f_0.Table.de,.int .i64 f_0.Table.cM]),(3,.loc [.int .i64 l_1.cQ,sF 1 l_1.Path,.int .i64 l_1.ag.Kind,.int .i64 l_1.ag.N,.str l_1.ag.S.b,sF 4 l_1.ag.L]),(8,sT 1 E1),(9,sT 6 Sq),(10,.int .i64 k9)],[],s⟩) ?_ ?_);(first|exact rfl|simp -implicitDefEqProofs only[go_sem,seval]);rintro J ⟨E1,Sq,k9⟩)
  |((with_reducible refine dD (live:=[(8,false),(9,false)]) (fun((z8,fZ):(List Int)×(List af))=>⟨[(8,sT 1 z8),(9,sT 6 fZ)],[],s⟩) (fun J=>?_) ?_);rotate_left;rintro⟨z8,fZ⟩)
  |simp -implicitDefEqProofs only[go_sem,seval])
theorem Dc{f_0 l_1}{s:ab}{r:(List Int)×(List af)×Int×Int}(h:fM f_0 l_1=some r):FE prog 50 [.agg [.bool true,sF 6 f_0.ak,sF 1 f_0.Bytes.B,sF 1 f_0.Bytes.lh,sF 1 f_0.Table.de,.int .i64 f_0.Table.cM],.agg [.int .i64 l_1.cQ,sF 1 l_1.Path,.int .i64 l_1.ag.Kind,.int .i64 l_1.ag.N,.str l_1.ag.S.b,sF 4 l_1.ag.L]] s [sT 1 r.1,sT 6 r.2.1,.int .i64 r.2.2.1,.int .i64 r.2.2.2] s:=Dd ⟨r,h,rfl,rfl⟩
open Go.RowKit
theorem En(a b:ByteArray)(w:World):Calls prog 202 #[.string a,.string b] w fun e w'=>e=.returned (.int .i64 (Lib.compareBytes a.data.toList b.data.toList))/\w'=w:=by
 have mixed:=mix
 have t3:prog.underlying 3=some (.int .i64):=by kernel_rfl
 have u3:=run_underlying t3
 have t9:prog.underlying 9=some .string:=by kernel_rfl
 have u9:=run_underlying t9
 go_enter Go.Proofs.Tryz.func202,(show Go.Proofs.Tryz.f202.ntmps=8 from rfl)
 go_wp2
 rw[run_callFunc_extern Go.Proofs.Tryz.func242 (by kernel_rfl) (by kernel_rfl) (by kernel_rfl) (e:=Extern.BytealgCompare.compare) (by kernel_rfl),Lib.run_compareString]
 simp only[Result.andThen]
 rw[Oper.upon_value]
 go_wp2
 go_ret
 exact⟨rfl,rfl⟩
def rW(a b:ar):Option Int:=some (Lib.compareBytes a.b b.b)
theorem Mk{a b:ar}{s:ab}{Q:List AV->ab->Prop}(h:ok (rW a b) fun r=>Q [.int .i64 r] s):FN prog 202 [.str a.b,.str b.b] s Q:=by
 unfold rW at h
 rw[aF]at h
 intro G w vs h1 h2 h3 h4
 obtain⟨hl,hr⟩:=h4
 have e0:∃v0 v1,vs= #[v0,v1]/\VR w G.R (.str a.b) v0/\VR w G.R (.str b.b) v1:=by
  obtain⟨l⟩:=vs
  match l,hl with
  |[v0,v1],_=>exact⟨v0,v1,rfl,hr 0 _ _ rfl rfl,hr 1 _ _ rfl rfl⟩
  |[],hl=>simp at hl
  |[_],hl=>simp at hl
  |_::_::_::_,hl=>simp at hl
 obtain⟨v0,v1,rfl,k0,k1⟩:=e0
 rw[VR.fm k0,VR.fm k1]
 refine(En _ _ w).mono fun e w'⟨he,hw⟩=>?_
 subst hw
 exact⟨_,_,s,G,he,h,h1,h3,⟨.int _ _,trivial⟩,aC.refl G w'⟩
theorem Mj{a b:ar}{s:ab}{r:Int}(h:rW a b=some r):FE prog 202 [.str a.b,.str b.b] s [.int .i64 r] s:=Mk ⟨r,h,rfl,rfl⟩
end Go.AB
end
