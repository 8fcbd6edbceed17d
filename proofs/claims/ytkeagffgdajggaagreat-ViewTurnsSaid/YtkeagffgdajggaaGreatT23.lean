/- A part of the proof: Vt1, Vt2. -/
import Derived.Test.YtkeagffgdajggaaGreatT14
import Derived.Test.YtkeagffgdajggaaGreatT22
import Derived.Lib.Bytealg
import Derived.Laws.Externs
import Derived.Lib.Walk
set_option linter.unusedSimpArgs false
set_option linter.unusedVariables false
section
set_option maxRecDepth 4000
namespace Go.AB
open Go
attribute[-go_sem] bU cN bw bT Nat.add_zero lf bC
def iV(f_0:pK)(l_1:dh):Option ((List Int)×(List ag)×Int×Int):=
 aP (cZ (cP.mk ([]:List Int) []) [l_1.A5]) fun r1=>
 Hg (
  mO (
   iter (fun((out9,o10):(List ag)×cP)=>
    if decide ((out9.length:Int)<(o10.l_.length:Int))then
     aK (0≤(out9.length:Int)∧(out9.length:Int)<o10.l_.length)<|
     aP (iA f_0 (ix o10.l_ (out9.length:Int))) fun r18=>
     if r18.2.2 !=0 then
      some (.inr (.inr (([]:List Int),([]:List ag),r18.2.1,r18.2.2,o10)))
     else
      jn (
       if(out9.length:Int)==0 then
        aP (jK r18.1.V l_1.ar) fun r24=>
        aP (cZ o10 r24) fun r25=>
        some r25
       else
        aP (gu r18.1.V) fun r26=>
        aP (cZ o10 r26) fun r27=>
        some r27) fun(o23:cP)=>
      aK ((out9.length+[r18.1].length)*80≤room)<|
      some (.inl (out9++[r18.1],o23))
    else
     some (.inr (.inl (out9,o10)))) (([]:List ag),r1)) (fun((out11,o12):(List ag)×cP)=>
   some (.inl (out11,o12)))
  (fun((t13,t14,t15,t16,o17):(List Int)×(List ag)×Int×Int×cP)=>some (.inr (t13,t14,t15,t16,o17)))) (fun((out2,o3):(List ag)×cP)=>
  some (o3.l_,out2,0,0))
 (fun((t4,t5,t6,t7,o8):(List Int)×(List ag)×Int×Int×cP)=>some (t4,t5,t6,t7))
def pZ:IC:=
 (ae [i1 3 (.cW 6 (.t 1)),i1 4 (.iR true (.c (.sl true 1 0 []))),i1 5 (.iR true (.c (.sl true 6 0 []))),mi 6 0,mi 7 0] [0,3]
 (ae [i1 13 (.makeMap),i1 14 (.build [.arr 0 0 0 0,.mV] [(1,1,(.t 13))]),i1 15 (.Er 1 2 (.t 14)),mv 8 15] [0,3,8]
 (ae [mv 16 8,fa 17 0 3,ld 18 1 17,i1 19 (.aY 1 1 lZ [(0,1,(.t 18))]),c2 20 100 16 19] [0,3,8]
 (ae [i1 9 (.iR true (.c (.sl true 6 0 [])))] [0,3,8,9]
 (.join [(8,false),(9,false)] (.block 0 (.loop [(0,false),(3,false),(8,false),(9,false)] (.seq (ae [mv 21 9,le 22 0 21,mv 23 8,nc 24 23,fa 25 0 24,i1 26 (.aU [.sl false 1 0 []] false (.t 25)),le 27 0 26,bt 28 .lss 22 27] [0,3,8,9,28]
 (.cond (.t 28) .skip
 (.exit 0)))
 (.block 1 (ae [mv 30 0,mv 31 8,nc 32 31,fa 33 0 32,i1 34 (.aU [.sl false 1 0 []] false (.t 33)),mv 35 9,le 36 0 35,ia 37 lZ 34 36,ld 38 1 37,c2 39 95 30 38,iw 29 39,ex 40 29 0,ex 41 29 1,ex 42 29 2,i1 10 (.aq xM),st 6 10 40,mv 11 41,mv 12 42] [0,3,8,9,10,11,12]
 (.seq (ae [mv 43 12,bn 44 .neq 43 0] [0,3,8,9,10,11,12,44]
 (.cond (.t 44) (ae [mv 45 11,mv 46 12,i1 4 (.iR true (.c (.sl true 1 0 []))),i1 5 (.iR true (.c (.sl true 6 0 []))),mv 6 45,mv 7 46] [4,5,6,7]
 .ret)
 .skip))
 (.join [(0,false),(3,false),(8,false),(9,false),(10,false)] (ae [mv 47 9,le 48 0 47,bn 49 .eql 48 0] [0,3,8,9,10,49]
 (.cond (.t 49) (.bD none [mv 50 8,fa 51 0 10,lm 52 4 51,fa 53 2 3,lm 54 4 53,c2 55 101 52 54,c2 56 100 50 55] [0,3,8,9,10])
 (.bD none [mv 57 8,fa 58 0 10,lm 59 4 58,c1 60 102 59,c2 61 100 57 60] [0,3,8,9,10])))
 (.bD none [mt 62 9,lm 63 6 10,i1 64 (.aY 6 1 xM [(0,6,(.t 63))]),Q4 65 6 80 62 64,mt 9 65] [0,3,8,9]))))))))
 (ae [mv 66 8,nc 67 66,fa 68 0 67,i1 69 (.gW (.t 68)),mt 70 9,mt 4 69,mt 5 70,mi 6 0,mi 7 0] [4,5,6,7]
 .ret))))))
def oM:List ay:=[⟨4,true,none⟩,⟨5,true,none⟩,⟨6,true,none⟩,⟨7,true,none⟩]
theorem Bv:aC Go.Proofs.Tryz.prog 47 71 oM pZ=true:=by kernel_rfl
theorem BW{f_0 l_1}{s:ab}{Q:List AV→ab→Prop}(va0:c6 s f_0):ok (iV f_0 l_1) (fun r=>Q [.sl true 1 r.1.length (flat r.1),.sl true 6 r.2.1.length (flat r.2.1),.int .i64 r.2.2.1,.int .i64 r.2.2.2] s)→FN Go.Proofs.Tryz.prog 47 [.ref f_0.B 0,.agg [.int .i64 l_1.A5,.sl false 1 l_1.Path.length (flat l_1.Path),.int .i64 l_1.ar.Kind,.int .i64 l_1.ar.N,.str l_1.ar.S.b,.sl false 4 l_1.ar.L.length (flat l_1.ar.L)]] s Q:=by
 intro h
 refine FN.forget ?_
 refine FN.of (af mix) Bv rfl (Nat.le_of_ble_eq_true rfl) ?_
 revert h
 rw[pZ,oM,iV]
 repeat'(first
  |with_reducible exact cF
  |with_reducible refine bj ?_ ?_
  |with_reducible refine cJ ?_
  |with_reducible refine fun hh=>DX (by simp -implicitDefEqProofs only[go_sem,seval,ai nN2N1,ai nN2N1.symm,set_comm nN2N1.symm]) (fQ (B0:=N2) (B0_in_:=N1) (by simp -implicitDefEqProofs only[go_sem,seval,ai nN2N1,ai nN2N1.symm,set_comm nN2N1.symm]<;>simp only[bp]) (by simp -implicitDefEqProofs only[go_sem,seval,ai nN2N1,ai nN2N1.symm,set_comm nN2N1.symm]<;>simp only[bp]) nN2N1 (cq (show ok (cZ (cP.mk ([]:List Int) []) [l_1.A5]) _ from hh) fun r1=>?_))
  |with_reducible refine ak (fun _(h:iA f_0 (ix o10.l_ (out9.length:Int))=some _)=>mM (c6.mono (by assumption) (by repeat'(first|exact Sub.refl _|refine Sub.set ?_ ?_|assumption|(simp[ab.set, *];done)))) h) (fun r18=>?_)
  |with_reducible refine ak (fun _(h:jK r18.1.V l_1.ar=some _)=>Gg h) (fun r24=>?_)
  |with_reducible refine fun hh=>fQ (B0:=N2) (B0_in_:=N1) (by simp -implicitDefEqProofs only[go_sem,seval,ai nN2N1,ai nN2N1.symm,set_comm nN2N1.symm]<;>simp only[bp]) (by simp -implicitDefEqProofs only[go_sem,seval,ai nN2N1,ai nN2N1.symm,set_comm nN2N1.symm]<;>simp only[bp]) nN2N1 (cq (show ok (cZ o10 r24) _ from hh) fun r25=>?_)
  |with_reducible refine ak (fun _(h:gu r18.1.V=some _)=>py h) (fun r26=>?_)
  |with_reducible refine fun hh=>fQ (B0:=N2) (B0_in_:=N1) (by simp -implicitDefEqProofs only[go_sem,seval,ai nN2N1,ai nN2N1.symm,set_comm nN2N1.symm]<;>simp only[bp]) (by simp -implicitDefEqProofs only[go_sem,seval,ai nN2N1,ai nN2N1.symm,set_comm nN2N1.symm]<;>simp only[bp]) nN2N1 (cq (show ok (cZ o10 r26) _ from hh) fun r27=>?_)
  |((with_reducible refine cH (live:=[(0,false),(3,false),(8,false),(9,false),(10,false)]) (fun(o23:cP)=>⟨[(0,.ref f_0.B 0),(3,.loc [.int .i64 l_1.A5,.sl false 1 l_1.Path.length (flat l_1.Path),.int .i64 l_1.ar.Kind,.int .i64 l_1.ar.N,.str l_1.ar.S.b,.sl false 4 l_1.ar.L.length (flat l_1.ar.L)]),(8,.ref N2 0),(9,.sl true 6 out9.length (flat out9)),(10,.loc [.int .i64 r18.1.V.Kind,.int .i64 r18.1.V.N,.str r18.1.V.S.b,.sl false 4 r18.1.V.L.length (flat r18.1.V.L),.bool r18.1.Stream,.str r18.1.Data.b])],[],((s.set N1 (.map (fT dn dR o23.U3))).set N2 (.cells [.sl true 1 o23.l_.length (flat o23.l_),.mp N1]))⟩) (fun J=>?_) ?_);rotate_left;rintro o23)
  |((with_reducible refine bf (fun((out9,o10):(List ag)×cP)=>⟨[(0,.ref f_0.B 0),(3,.loc [.int .i64 l_1.A5,.sl false 1 l_1.Path.length (flat l_1.Path),.int .i64 l_1.ar.Kind,.int .i64 l_1.ar.N,.str l_1.ar.S.b,.sl false 4 l_1.ar.L.length (flat l_1.ar.L)]),(8,.ref N2 0),(9,.sl true 6 out9.length (flat out9))],[],((s.set N1 (.map (fT dn dR o10.U3))).set N2 (.cells [.sl true 1 o10.l_.length (flat o10.l_),.mp N1]))⟩) ?_ ?_);(first|exact rfl|simp -implicitDefEqProofs only[go_sem,seval,ai nN2N1,ai nN2N1.symm,set_comm nN2N1.symm]);rintro J ⟨out9,o10⟩)
  |((with_reducible refine dY (live:=[(8,false),(9,false)]) (fun((out2,o3):(List ag)×cP)=>⟨[(8,.ref N2 0),(9,.sl true 6 out2.length (flat out2))],[],((s.set N1 (.map (fT dn dR o3.U3))).set N2 (.cells [.sl true 1 o3.l_.length (flat o3.l_),.mp N1]))⟩) (fun J=>?_) ?_);rotate_left;rintro⟨out2,o3⟩)
  |((fail_if_success (have _x:=sN1));with_reducible intro hh N1 hN1;(try simp only[cM]at hN1);have sN1:=hN1;revert hh)
  |(have _x:=sN1;clear _x;(fail_if_success (have _x:=sN2));with_reducible intro hh N2 hN2;(try simp only[cM]at hN2);obtain⟨nN2N1,sN2⟩:=hN2;revert hh)
  |with_reducible exact fun hh=>⟨_,jX.set (jX.set (jX.refl _) (by simp[ab.set,sN1])) (by simp[ab.set,sN2]),hh⟩
  |simp -implicitDefEqProofs only[go_sem,seval,ai nN2N1,ai nN2N1.symm,set_comm nN2N1.symm]
  |simp -implicitDefEqProofs only[go_sem,seval])
theorem BV{f_0 l_1}{s:ab}{r:(List Int)×(List ag)×Int×Int}(va0:c6 s f_0)(h:iV f_0 l_1=some r):FE Go.Proofs.Tryz.prog 47 [.ref f_0.B 0,.agg [.int .i64 l_1.A5,.sl false 1 l_1.Path.length (flat l_1.Path),.int .i64 l_1.ar.Kind,.int .i64 l_1.ar.N,.str l_1.ar.S.b,.sl false 4 l_1.ar.L.length (flat l_1.ar.L)]] s [.sl true 1 r.1.length (flat r.1),.sl true 6 r.2.1.length (flat r.2.1),.int .i64 r.2.2.1,.int .i64 r.2.2.2] s:=BW va0 ⟨r,h,rfl,rfl⟩
structure rE where
 B:(List UInt8)
 Qr:(List Bool)
instance:aH rE:=⟨2,fun x=>[.sl false 1 x.B.length (flat x.B),.sl false 1 x.Qr.length (flat x.Qr)],(rE.mk [] []),by decide,fun _=>rfl,fun _=>rfl⟩
structure oH where
 dw:(List Int)
 jW:Int
instance:aH oH:=⟨2,fun x=>[.sl false 1 x.dw.length (flat x.dw),.int .i64 x.jW],(oH.mk [] 0),by decide,fun _=>rfl,fun _=>rfl⟩
structure Gu where
 an:(List ag)
 Bytes:rE
 Table:oH
instance:aH Gu:=⟨6,fun x=>[.bool true,.sl false 6 x.an.length (flat x.an),.sl false 1 x.Bytes.B.length (flat x.Bytes.B),.sl false 1 x.Bytes.Qr.length (flat x.Bytes.Qr),.sl false 1 x.Table.dw.length (flat x.Table.dw),.int .i64 x.Table.jW],(Gu.mk [] (rE.mk [] []) (oH.mk [] 0)),by decide,fun _=>rfl,fun _=>rfl⟩
structure Gw where
 A5:Int
 Path:(List Int)
 ar:aa
instance:aH Gw:=⟨6,fun x=>[.int .i64 x.A5,.sl false 1 x.Path.length (flat x.Path),.int .i64 x.ar.Kind,.int .i64 x.ar.N,.str x.ar.S.b,.sl false 4 x.ar.L.length (flat x.ar.L)],(Gw.mk 0 [] (aa.mk 0 0 (aA.mk []) [])),by decide,fun _=>rfl,fun _=>rfl⟩
def jz(v_0:aa)(key_1:aA):Option (Int):=
 Hg (
  mO (
   iter (fun(k2:Int)=>
    if(v_0.Kind==7)&&(decide (k2<(v_0.L.length:Int)))then
     aK (0≤k2∧k2<v_0.L.length)<|
     aK ((((ix v_0.L k2).Kind)==5)=true→0≤k2∧k2<v_0.L.length)<|
     if(((ix v_0.L k2).Kind)==5)&&(((ix v_0.L k2).S).b==key_1.b)then
      some (.inr (.inr k2))
     else
      some (.inl (bz (k2+2)))
    else
     some (.inr (.inl ()))) 0) (fun(_:Unit)=>
   some (.inl ()))
  (fun(t3:Int)=>some (.inr t3))) (fun(_:Unit)=>
  some (-1))
 (fun(t1:Int)=>some t1)
def xq:IC:=
 (ae [i1 2 (.cW 4 (.t 0)),mi 4 0] [1,2]
 (.join [] (ae [mi 5 0] [1,2,5]
 (.block 0 (.loop [(1,false),(2,false),(5,false)] (.seq (ae [fa 6 0 2,ld 7 1 6,bn 8 .eql 7 7,mv 9 8,c9 10 5 9 true,fg 11 9 true 3 2,lg 12 9 true 1 11,cS 13 9 true (.len 0 (.t 12)),s6 14 9 true .lss 10 13,pf 15 9 14] [1,2,5,15]
 (.cond (.t 15) .skip
 (.exit 0)))
 (.seq (.block 1 (ae [fa 18 3 2,ld 19 1 18,mv 20 5,ia 21 oG 19 20,fa 22 0 21,ld 23 1 22,bn 24 .eql 23 5,mv 25 24,fg 26 25 true 3 2,lg 27 25 true 1 26,c9 28 5 25 true,cS 29 25 true (.indexAddr oG (.t 27) (.t 28)),fg 30 25 true 2 29,lg 31 25 true 1 30,c9 32 1 25 true,s6 33 25 true .eql 31 32,pf 34 25 33] [1,2,5,34]
 (.cond (.t 34) (ae [mv 35 5,mv 4 35] [4]
 .ret)
 .skip)))
 (.bD none [mv 16 5,bn 17 .add 16 2,mv 5 17] [1,2,5]))))))
 (ae [mi 4 (-1)] [4]
 .ret)))
def vg:List ay:=[⟨4,true,none⟩]
theorem HO:aC Go.Proofs.Tryz.prog 82 36 vg xq=true:=by kernel_rfl
theorem Iz{v_0 key_1}{s:ab}{Q:List AV→ab→Prop}:ok (jz v_0 key_1) (fun r=>Q [.int .i64 r] s)→FN Go.Proofs.Tryz.prog 82 [.agg [.int .i64 v_0.Kind,.int .i64 v_0.N,.str v_0.S.b,.sl false 4 v_0.L.length (flat v_0.L)],.str key_1.b] s Q:=by
 intro h
 refine FN.of (af mix) HO rfl (Nat.le_of_ble_eq_true rfl) ?_
 revert h
 rw[xq,vg,jz]
 repeat'(first
  |((with_reducible refine bf (fun(k2:Int)=>⟨[(1,.str key_1.b),(2,.loc [.int .i64 v_0.Kind,.int .i64 v_0.N,.str v_0.S.b,.sl false 4 v_0.L.length (flat v_0.L)]),(5,.int .i64 k2)],[],s⟩) ?_ ?_);(first|exact rfl|simp -implicitDefEqProofs only[go_sem,seval]);rintro J k2)
  |((with_reducible refine dY (fun(_:Unit)=>⟨[],[],s⟩) (fun J=>?_) ?_);rotate_left;rintro _)
  |simp -implicitDefEqProofs only[go_sem,seval])
theorem Iy{v_0 key_1}{s:ab}{r:Int}(h:jz v_0 key_1=some r):FE Go.Proofs.Tryz.prog 82 [.agg [.int .i64 v_0.Kind,.int .i64 v_0.N,.str v_0.S.b,.sl false 4 v_0.L.length (flat v_0.L)],.str key_1.b] s [.int .i64 r] s:=Iz ⟨r,h,rfl,rfl⟩
def jy(v_0:aa)(key_1:aA):Option (aa):=
 aP (jz v_0 key_1) fun r1=>
 if decide (r1<0)then
  some v_0
 else
  aK (0≤(0:Int)∧0≤r1∧r1≤v_0.L.length)<|
  aK ((([]:List aa).length+(part v_0.L 0 r1).length)*56≤room)<|
  jn (
   if decide (bz (r1+2)<(v_0.L.length:Int))then
    aK (0≤bz (r1+2)∧bz (r1+2)≤(v_0.L.length:Int)∧(v_0.L.length:Int)≤v_0.L.length)<|
    aK (((part v_0.L 0 r1).length+(part v_0.L (bz (r1+2)) (v_0.L.length:Int)).length)*56≤room)<|
    some ((part v_0.L 0 r1)++(part v_0.L (bz (r1+2)) (v_0.L.length:Int)))
   else
    some (part v_0.L 0 r1)) fun(out4:(List aa))=>
  some (aa.mk v_0.Kind v_0.N v_0.S out4)
def xp:IC:=
 (ae [i1 2 (.cW 4 (.t 0)),i1 4 (.aq gB)] [1,2,4]
 (ae [lm 7 4 2,mv 8 1,c2 9 82 7 8,mv 5 9] [2,4,5]
 (.seq (ae [mv 10 5,bn 11 .lss 10 0] [2,4,5,11]
 (.cond (.t 11) (ae [lm 12 4 2,st 4 4 12] [4]
 .ret)
 .skip))
 (ae [i1 13 (.aY 4 0 [] []),fa 14 3 2,ld 15 1 14,mv 16 5,Mz 17 4 15 16,Q4 18 4 56 13 17,mt 6 18] [2,4,5,6]
 (.join [(2,false),(4,false),(6,false)] (ae [mv 19 5,bn 20 .add 19 2,fa 21 3 2,ld 22 1 21,le 23 0 22,bt 24 .lss 20 23] [2,4,5,6,24]
 (.cond (.t 24) (.bD none [mt 25 6,fa 26 3 2,ld 27 1 26,mv 28 5,bn 29 .add 28 2,px 30 4 27 29,Q4 31 4 56 25 30,mt 6 31] [2,4,6])
 .skip))
 (ae [mt 32 6,fa 33 3 2,st 1 33 32] [2,4]
 (ae [lm 34 4 2,st 4 4 34] [4]
 .ret)))))))
def ve:List ay:=[⟨4,false,some (4,true)⟩]
theorem HN:aC Go.Proofs.Tryz.prog 54 35 ve xp=true:=by kernel_rfl
theorem Ix{v_0 key_1}{s:ab}{Q:List AV→ab→Prop}:ok (jy v_0 key_1) (fun r=>Q [.agg [.int .i64 r.Kind,.int .i64 r.N,.str r.S.b,.sl false 4 r.L.length (flat r.L)]] s)→FN Go.Proofs.Tryz.prog 54 [.agg [.int .i64 v_0.Kind,.int .i64 v_0.N,.str v_0.S.b,.sl false 4 v_0.L.length (flat v_0.L)],.str key_1.b] s Q:=by
 intro h
 refine FN.of (af mix) HN rfl (Nat.le_of_ble_eq_true rfl) ?_
 revert h
 rw[xp,ve,jy]
 repeat'(first
  |with_reducible exact cF
  |with_reducible refine bj ?_ ?_
  |with_reducible refine cJ ?_
  |with_reducible refine ak (fun _(h:jz v_0 key_1=some _)=>Iy h) (fun r1=>?_)
  |((with_reducible refine cH (fun(out4:(List aa))=>⟨[(2,.loc [.int .i64 v_0.Kind,.int .i64 v_0.N,.str v_0.S.b,.sl false 4 v_0.L.length (flat v_0.L)]),(4,.loc [.int .i64 0,.int .i64 0,.str (aA.mk []).b,.sl true 4 0 []]),(6,.sl true 4 out4.length (flat out4))],[],s⟩) (fun J=>?_) ?_);rotate_left;rintro out4)
  |simp -implicitDefEqProofs only[go_sem,seval])
theorem Iw{v_0 key_1}{s:ab}{r:aa}(h:jy v_0 key_1=some r):FE Go.Proofs.Tryz.prog 54 [.agg [.int .i64 v_0.Kind,.int .i64 v_0.N,.str v_0.S.b,.sl false 4 v_0.L.length (flat v_0.L)],.str key_1.b] s [.agg [.int .i64 r.Kind,.int .i64 r.N,.str r.S.b,.sl false 4 r.L.length (flat r.L)]] s:=Ix ⟨r,h,rfl,rfl⟩
open Go.RowKit
theorem Db(a b:ByteArray)(w:World):Calls Go.Proofs.Tryz.prog 202 #[.string a,.string b] w fun e w'=>e=.returned (.int .i64 (Lib.compareBytes a.data.toList b.data.toList))∧w'=w:=by
 have mixed:=mix
 have t3:Go.Proofs.Tryz.prog.underlying 3=some (.int .i64):=by kernel_rfl
 have u3:=run_underlying t3
 have t9:Go.Proofs.Tryz.prog.underlying 9=some .string:=by kernel_rfl
 have u9:=run_underlying t9
 go_enter Go.Proofs.Tryz.func202,(show Go.Proofs.Tryz.f202.ntmps=8 from rfl)
 go_wp2
 rw[run_callFunc_extern Go.Proofs.Tryz.func242 (by kernel_rfl) (by kernel_rfl) (by kernel_rfl) (e:=Extern.BytealgCompare.compare) (by kernel_rfl),Lib.run_compareString]
 simp only[Result.andThen]
 rw[Oper.upon_value]
 go_wp2
 go_ret
 exact⟨rfl,rfl⟩
def pN(a b:aA):Option Int:=some (Lib.compareBytes a.b b.b)
theorem KK{a b:aA}{s:ab}{Q:List AV→ab→Prop}(h:ok (pN a b) fun r=>Q [.int .i64 r] s):FN Go.Proofs.Tryz.prog 202 [.str a.b,.str b.b] s Q:=by
 unfold pN at h
 rw[az]at h
 intro G w vs h1 h2 h3 h4
 obtain⟨hl,hr⟩:=h4
 have e0:∃v0 v1,vs= #[v0,v1]∧VR w G.R (.str a.b) v0∧VR w G.R (.str b.b) v1:=by
  obtain⟨l⟩:=vs
  match l,hl with
  |[v0,v1],_=>exact⟨v0,v1,rfl,hr 0 _ _ rfl rfl,hr 1 _ _ rfl rfl⟩
  |[],hl=>simp at hl
  |[_],hl=>simp at hl
  |_::_::_::_,hl=>simp at hl
 obtain⟨v0,v1,rfl,k0,k1⟩:=e0
 rw[VR.dL k0,VR.dL k1]
 refine(Db _ _ w).mono fun e w'⟨he,hw⟩=>?_
 subst hw
 exact⟨_,_,s,G,he,h,h1,h3,⟨.int _ _,trivial⟩,ax.refl G w'⟩
theorem KJ{a b:aA}{s:ab}{r:Int}(h:pN a b=some r):FE Go.Proofs.Tryz.prog 202 [.str a.b,.str b.b] s [.int .i64 r] s:=KK ⟨r,h,rfl,rfl⟩
end Go.AB
end
section
set_option maxRecDepth 4000
namespace Go.AB
open Go
attribute[-go_sem] bU cN bw bT Nat.add_zero lf bC
structure bF where
 an:(List ag)
 ar:aa
instance:aH bF:=⟨5,fun x=>[.sl false 6 x.an.length (flat x.an),.int .i64 x.ar.Kind,.int .i64 x.ar.N,.str x.ar.S.b,.sl false 4 x.ar.L.length (flat x.ar.L)],(bF.mk [] (aa.mk 0 0 (aA.mk []) [])),by decide,fun _=>rfl,fun _=>rfl⟩
def eZ(a_0:aA)(b_1:aA):Option (Int):=
 aP (pN a_0 b_1) fun r1=>
 some r1
def nI:IC:=
 (ae [mi 4 0] [0,1]
 (ae [mv 5 0,mv 6 1,c2 7 202 5 6,mv 4 7] [4]
 .ret))
def mL:List ay:=[⟨4,true,none⟩]
theorem yT:aC Go.Proofs.Tryz.prog 166 8 mL nI=true:=by kernel_rfl
theorem zi{a_0 b_1}{s:ab}{Q:List AV→ab→Prop}:ok (eZ a_0 b_1) (fun r=>Q [.int .i64 r] s)→FN Go.Proofs.Tryz.prog 166 [.str a_0.b,.str b_1.b] s Q:=by
 intro h
 refine FN.of (af mix) yT rfl (Nat.le_of_ble_eq_true rfl) ?_
 revert h
 rw[nI,mL,eZ]
 repeat'(first
  |with_reducible refine ak (fun _(h:pN a_0 b_1=some _)=>KJ h) (fun r1=>?_)
  |simp -implicitDefEqProofs only[go_sem,seval])
theorem zh{a_0 b_1}{s:ab}{r:Int}(h:eZ a_0 b_1=some r):FE Go.Proofs.Tryz.prog 166 [.str a_0.b,.str b_1.b] s [.int .i64 r] s:=zi ⟨r,h,rfl,rfl⟩
mutual
def bZ:Nat→aa→aa→Option (Int)
 |0,_,_=>none
 |fuel+1,a_0,b_1=>
  aP (bG a_0.Kind b_1.Kind) fun r1=>
  aP (bG a_0.N b_1.N) fun r2=>
  aP (eZ a_0.S b_1.S) fun r3=>
  aP (eY [r1,r2,r3]) fun r4=>
  if r4 !=0 then
   some r4
  else
   aP (aw fuel a_0.L b_1.L) fun r5=>
   some r5
def aw:Nat→(List aa)→(List aa)→Option (Int)
 |0,_,_=>none
 |fuel+1,s1_0,s2_1=>
  Hg (
   mO (
    iter (fun(t4:Int)=>
     if decide (t4<(s1_0.length:Int))then
      aK (0≤t4∧t4<s1_0.length)<|
      if decide (t4≥(s2_1.length:Int))then
       some (.inr (.inr (1:Int)))
      else
       aK (0≤t4∧t4<s2_1.length)<|
       aP (bZ fuel (ix s1_0 t4) (ix s2_1 t4)) fun r8=>
       if r8 !=0 then
        some (.inr (.inr r8))
       else
        some (.inl (bz (t4+1)))
     else
      some (.inr (.inl ()))) 0) (fun(_:Unit)=>
    some (.inl ()))
   (fun(t7:Int)=>some (.inr t7))) (fun(_:Unit)=>
   if decide ((s1_0.length:Int)<(s2_1.length:Int))then
    some (-1)
   else
    some 0)
  (fun(t3:Int)=>some t3)
end
def qc:IC:=
 (ae [i1 2 (.cW 4 (.t 0)),i1 3 (.cW 4 (.t 1)),mi 4 0] [2,3]
 (.seq (.seq (.bD (some 18) [fa 6 0 2,ld 7 1 6,fa 8 0 3,ld 9 1 8,c2 10 165 7 9,fa 11 1 2,ld 12 1 11,fa 13 1 3,ld 14 1 13,c2 15 165 12 14,fa 16 2 2,ld 17 1 16,fa 18 2 3,ld 19 1 18,c2 20 166 17 19,i1 21 (.aY 1 3 [.int .i64 0,.int .i64 0,.int .i64 0] [(0,1,(.t 10)),(1,1,(.t 15)),(2,1,(.t 20))]),c1 22 164 21,mv 5 22] [2,3,5])
 (ae [mv 23 5,bn 24 .neq 23 0] [2,3,5,24]
 (.cond (.t 24) (ae [mv 25 5,mv 4 25] [4]
 .ret)
 .skip)))
 (ae [fa 26 3 2,ld 27 1 26,fa 28 3 3,ld 29 1 28,i1 30 (.call 167 [(.t 27),(.t 29),(.c (.fn 114 [] []))]),mv 4 30] [4]
 .ret)))
def oR:List ay:=[⟨4,true,none⟩]
theorem BB:aC Go.Proofs.Tryz.prog 114 31 oR qc=true:=by kernel_rfl
theorem Nf:(ny Go.Proofs.Tryz.prog 114=true)=True:=eq_true (by kernel_rfl)
def b9:IC:=
 (ae [mi 6 0] [0,1,2]
 (.join [(0,true),(1,true)] (ae [mv 11 0,le 12 0 11,mi 13 0] [0,1,2,11,12,13]
 (.block 0 (.loop [(0,true),(1,true),(2,false),(11,true),(12,false),(13,false)] (ae [bt 14 .lss 13 12] [0,1,2,11,12,13,14]
 (.seq (.cond (.t 14) .skip
 (.exit 0))
 (.seq (.block 1 (ae [mv 15 13,ia 16 oG 11 13,lm 17 4 16,i1 8 (.aq gB),mv 7 15,st 4 8 17] [0,1,2,7,8,11,12,13]
 (.seq (ae [mv 18 7,mv 19 1,le 20 0 19,bt 21 .geq 18 20] [0,1,2,7,8,11,12,13,21]
 (.cond (.t 21) (ae [mi 6 1] [6]
 .ret)
 .skip))
 (ae [mv 22 1,mv 23 7,ia 24 oG 22 23,lm 25 4 24,i1 9 (.aq gB),st 4 9 25] [0,1,2,8,9,11,12,13]
 (ae [mv 26 2,lm 27 4 8,lm 28 4 9,i1 29 (.b6 (.t 26) [(.t 27),(.t 28)]),mv 10 29] [0,1,2,10,11,12,13]
 (ae [mv 30 10,bn 31 .neq 30 0] [0,1,2,10,11,12,13,31]
 (.cond (.t 31) (ae [mv 32 10,mv 6 32] [6]
 .ret)
 .skip)))))))
 (.bD none [bn 33 .add 13 1,mv 13 33] [0,1,2,11,12,13])))))))
 (.seq (ae [mt 34 0,le 35 0 34,mt 36 1,le 37 0 36,bt 38 .lss 35 37] [38]
 (.cond (.t 38) (ae [mi 6 (-1)] [6]
 .ret)
 .skip))
 (ae [mi 6 0] [6]
 .ret))))
def bV:List ay:=[⟨6,true,none⟩]
theorem dK:aC Go.Proofs.Tryz.prog 167 39 bV b9=true:=by kernel_rfl
theorem AY{fuel:Nat}:(∀{a_0:aa}{b_1:aa}{s:ab}{Q:List AV→ab→Prop},ok (bZ fuel a_0 b_1) (fun r=>Q [.int .i64 r] s)→FN Go.Proofs.Tryz.prog 114 [.agg [.int .i64 a_0.Kind,.int .i64 a_0.N,.str a_0.S.b,.sl false 4 a_0.L.length (flat a_0.L)],.agg [.int .i64 b_1.Kind,.int .i64 b_1.N,.str b_1.S.b,.sl false 4 b_1.L.length (flat b_1.L)]] s Q)
 ∧(∀{s1_0:(List aa)}{s2_1:(List aa)}{s:ab}{Q:List AV→ab→Prop},ok (aw fuel s1_0 s2_1) (fun r=>Q [.int .i64 r] s)→FN Go.Proofs.Tryz.prog 167 [.sl false 4 s1_0.length (flat s1_0),.sl false 4 s2_1.length (flat s2_1),.fn 114 [] []] s Q):=by
 induction fuel with
 |zero=>exact⟨by(intros;rename_i h;rw[bZ]at h;exact absurd h (by rw[ok_none];exact fun h=>h)),by(intros;rename_i h;rw[aw]at h;exact absurd h (by rw[ok_none];exact fun h=>h))⟩
 |succ fuel ih=>
 have ihfe_114:∀{a_0:aa}{b_1:aa}{s:ab}{r:Int},bZ fuel a_0 b_1=some r→FE Go.Proofs.Tryz.prog 114 [.agg [.int .i64 a_0.Kind,.int .i64 a_0.N,.str a_0.S.b,.sl false 4 a_0.L.length (flat a_0.L)],.agg [.int .i64 b_1.Kind,.int .i64 b_1.N,.str b_1.S.b,.sl false 4 b_1.L.length (flat b_1.L)]] s [.int .i64 r] s:=fun h=>ih.1 ⟨_,h,rfl,rfl⟩
 have ihfe_167:∀{s1_0:(List aa)}{s2_1:(List aa)}{s:ab}{r:Int},aw fuel s1_0 s2_1=some r→FE Go.Proofs.Tryz.prog 167 [.sl false 4 s1_0.length (flat s1_0),.sl false 4 s2_1.length (flat s2_1),.fn 114 [] []] s [.int .i64 r] s:=fun h=>ih.2 ⟨_,h,rfl,rfl⟩
 refine⟨?_,?_⟩
 ·intro a_0 b_1 s Q h
  refine FN.of (af mix) BB rfl (Nat.le_of_ble_eq_true rfl) ?_
  revert h
  rw[qc,oR,bZ]
  repeat'(first
   |with_reducible exact cF
   |with_reducible refine bj ?_ ?_
   |with_reducible refine cJ ?_
   |with_reducible refine bH (fun _(h:bG a_0.Kind b_1.Kind=some _)=>gS h) (fun _=>rfl) (fun r1=>?_)
   |with_reducible refine bH (fun _(h:bG a_0.N b_1.N=some _)=>gS h) (fun _=>rfl) (fun r2=>?_)
   |with_reducible refine bH (fun _(h:eZ a_0.S b_1.S=some _)=>zh h) (fun _=>rfl) (fun r3=>?_)
   |with_reducible refine bH (fun _(h:eY [r1,r2,r3]=some _)=>(by refine jV ?_ (zE h);simp -implicitDefEqProofs only[go_sem,seval])) (fun _=>rfl) (fun r4=>?_)
   |with_reducible refine ak (fun _(h:aw fuel a_0.L b_1.L=some _)=>ihfe_167 h) (fun r5=>?_)
   |simp -implicitDefEqProofs only[go_sem,seval])
 ·intro s1_0 s2_1 s Q h
  refine FN.of (af mix) dK rfl (Nat.le_of_ble_eq_true rfl) ?_
  revert h
  rw[b9,bV,aw]
  repeat'(first
   |with_reducible exact cF
   |with_reducible refine bj ?_ ?_
   |with_reducible refine cJ ?_
   |with_reducible refine ak (fun _(h:bZ fuel (ix s1_0 t4) (ix s2_1 t4)=some _)=>ihfe_114 h) (fun r8=>?_)
   |((with_reducible refine bf (fun(t4:Int)=>⟨[(0,.sl false 4 s1_0.length (flat s1_0)),(1,.sl false 4 s2_1.length (flat s2_1)),(2,.fn 114 [] []),(11,.sl false 4 s1_0.length (flat s1_0)),(12,.int .i64 (s1_0.length:Int)),(13,.int .i64 t4)],[],s⟩) ?_ ?_);(first|exact rfl|simp -implicitDefEqProofs only[go_sem,seval,Nf]);rintro J t4)
   |((with_reducible refine dY (fun(_:Unit)=>⟨[(0,.sl false 4 s1_0.length (flat s1_0)),(1,.sl false 4 s2_1.length (flat s2_1))],[],s⟩) (fun J=>?_) ?_);rotate_left;rintro _)
   |simp -implicitDefEqProofs only[go_sem,seval,Nf])
theorem Cj{fuel:Nat}:∀{a_0:aa}{b_1:aa}{s:ab}{Q:List AV→ab→Prop},ok (bZ fuel a_0 b_1) (fun r=>Q [.int .i64 r] s)→FN Go.Proofs.Tryz.prog 114 [.agg [.int .i64 a_0.Kind,.int .i64 a_0.N,.str a_0.S.b,.sl false 4 a_0.L.length (flat a_0.L)],.agg [.int .i64 b_1.Kind,.int .i64 b_1.N,.str b_1.S.b,.sl false 4 b_1.L.length (flat b_1.L)]] s Q:=AY.1
theorem Ci{fuel:Nat}{a_0 b_1}{s:ab}{r:Int}(h:bZ fuel a_0 b_1=some r):FE Go.Proofs.Tryz.prog 114 [.agg [.int .i64 a_0.Kind,.int .i64 a_0.N,.str a_0.S.b,.sl false 4 a_0.L.length (flat a_0.L)],.agg [.int .i64 b_1.Kind,.int .i64 b_1.N,.str b_1.S.b,.sl false 4 b_1.L.length (flat b_1.L)]] s [.int .i64 r] s:=Cj ⟨r,h,rfl,rfl⟩
def gA(a_0:aa)(b_1:aa):Option (Bool):=
 aP (bZ iB a_0 b_1) fun r1=>
 some (r1==0)
def xF:IC:=
 (ae [i1 2 (.cW 4 (.t 0)),i1 3 (.cW 4 (.t 1)),cV 4 (.bool false)] [2,3]
 (ae [lm 5 4 2,lm 6 4 3,c2 7 114 5 6,bn 8 .eql 7 0,mv 4 8] [4]
 .ret))
def vB:List ay:=[⟨4,true,none⟩]
theorem H8:aC Go.Proofs.Tryz.prog 58 9 vB xF=true:=by kernel_rfl
theorem I0{a_0 b_1}{s:ab}{Q:List AV→ab→Prop}:ok (gA a_0 b_1) (fun r=>Q [.bool r] s)→FN Go.Proofs.Tryz.prog 58 [.agg [.int .i64 a_0.Kind,.int .i64 a_0.N,.str a_0.S.b,.sl false 4 a_0.L.length (flat a_0.L)],.agg [.int .i64 b_1.Kind,.int .i64 b_1.N,.str b_1.S.b,.sl false 4 b_1.L.length (flat b_1.L)]] s Q:=by
 intro h
 refine FN.of (af mix) H8 rfl (Nat.le_of_ble_eq_true rfl) ?_
 revert h
 rw[xF,vB,gA]
 repeat'(first
  |with_reducible refine ak (fun _(h:bZ iB a_0 b_1=some _)=>Ci h) (fun r1=>?_)
  |simp -implicitDefEqProofs only[go_sem,seval])
theorem yk{a_0 b_1}{s:ab}{r:Bool}(h:gA a_0 b_1=some r):FE Go.Proofs.Tryz.prog 58 [.agg [.int .i64 a_0.Kind,.int .i64 a_0.N,.str a_0.S.b,.sl false 4 a_0.L.length (flat a_0.L)],.agg [.int .i64 b_1.Kind,.int .i64 b_1.N,.str b_1.S.b,.sl false 4 b_1.L.length (flat b_1.L)]] s [.bool r] s:=I0 ⟨r,h,rfl,rfl⟩
def jj(a_0:ag)(b_1:ag):Option (Bool):=
 aP (fY (((a_0.Stream==b_1.Stream)!=false)&&(a_0.Data.b==b_1.Data.b)) false (gA a_0.V b_1.V)) fun r1=>
 some ((((a_0.Stream==b_1.Stream)!=false)&&(a_0.Data.b==b_1.Data.b))&&r1)
def xf:IC:=
 (ae [i1 2 (.cW 6 (.t 0)),i1 3 (.cW 6 (.t 1)),cV 4 (.bool false)] [2,3]
 (.seq (.bD (some 18) [fa 5 4 2,ld 6 1 5,fa 7 4 3,ld 8 1 7,i1 9 (.Pa false (.t 6) (.t 8)),mv 10 9,fg 11 10 true 5 2,lg 12 10 true 1 11,fg 13 10 true 5 3,lg 14 10 true 1 13,s6 15 10 true .eql 12 14,pf 16 10 15,mv 17 16,fg 18 17 true 0 2,cS 19 17 true (.load 4 true (.t 18)),fg 20 17 true 0 3,cS 21 17 true (.load 4 true (.t 20)),Un 22 17 true 58 19 21,pf 23 17 22,mv 4 23] [4])
 .ret))
def uY:List ay:=[⟨4,true,none⟩]
theorem HG:aC Go.Proofs.Tryz.prog 57 24 uY xf=true:=by kernel_rfl
theorem Hx{a_0 b_1}{s:ab}{Q:List AV→ab→Prop}:ok (jj a_0 b_1) (fun r=>Q [.bool r] s)→FN Go.Proofs.Tryz.prog 57 [.agg [.int .i64 a_0.V.Kind,.int .i64 a_0.V.N,.str a_0.V.S.b,.sl false 4 a_0.V.L.length (flat a_0.V.L),.bool a_0.Stream,.str a_0.Data.b],.agg [.int .i64 b_1.V.Kind,.int .i64 b_1.V.N,.str b_1.V.S.b,.sl false 4 b_1.V.L.length (flat b_1.V.L),.bool b_1.Stream,.str b_1.Data.b]] s Q:=by
 intro h
 refine FN.of (af mix) HG rfl (Nat.le_of_ble_eq_true rfl) ?_
 revert h
 rw[xf,uY,jj]
 repeat'(first
  |with_reducible refine dg rfl (fun _(h:gA a_0.V b_1.V=some _)=>yk h) (fun _=>rfl) (fun r1=>?_)
  |simp -implicitDefEqProofs only[go_sem,seval])
theorem Hw{a_0 b_1}{s:ab}{r:Bool}(h:jj a_0 b_1=some r):FE Go.Proofs.Tryz.prog 57 [.agg [.int .i64 a_0.V.Kind,.int .i64 a_0.V.N,.str a_0.V.S.b,.sl false 4 a_0.V.L.length (flat a_0.V.L),.bool a_0.Stream,.str a_0.Data.b],.agg [.int .i64 b_1.V.Kind,.int .i64 b_1.V.N,.str b_1.V.S.b,.sl false 4 b_1.V.L.length (flat b_1.V.L),.bool b_1.Stream,.str b_1.Data.b]] s [.bool r] s:=Hx ⟨r,h,rfl,rfl⟩
def au(s1_0:(List ag))(s2_1:(List ag)):Option (Bool):=
 if(s1_0.length:Int)!=(s2_1.length:Int)then
  some false
 else
  Hg (
   mO (
    iter (fun(t2:Int)=>
     if decide (t2<(s1_0.length:Int))then
      aK (0≤t2∧t2<s1_0.length)<|
      aK (0≤t2∧t2<s2_1.length)<|
      aP (jj (ix s1_0 t2) (ix s2_1 t2)) fun r4=>
      if !r4 then
       some (.inr (.inr false))
      else
       some (.inl (bz (t2+1)))
     else
      some (.inr (.inl ()))) 0) (fun(_:Unit)=>
    some (.inl ()))
   (fun(t3:Bool)=>some (.inr t3))) (fun(_:Unit)=>
   some true)
  (fun(t1:Bool)=>some t1)
theorem QM:(ny Go.Proofs.Tryz.prog 57=true)=True:=eq_true (by kernel_rfl)
def bR:IC:=
 (ae [cV 6 (.bool false)] [0,1,2]
 (.seq (ae [mv 10 0,le 11 0 10,mv 12 1,le 13 0 12,bt 14 .neq 11 13] [0,1,2,14]
 (.cond (.t 14) (ae [cV 6 (.bool false)] [6]
 .ret)
 .skip))
 (.join [] (ae [mt 15 0,le 16 0 15,mi 17 0] [1,2,15,16,17]
 (.block 0 (.loop [(1,true),(2,false),(15,true),(16,false),(17,false)] (ae [bt 18 .lss 17 16] [1,2,15,16,17,18]
 (.seq (.cond (.t 18) .skip
 (.exit 0))
 (.seq (.block 1 (ae [mv 19 17,ia 20 Sk 15 17,lm 21 6 20,i1 8 (.aq xM),mv 7 19,st 6 8 21] [1,2,7,8,15,16,17]
 (ae [mv 22 1,mv 23 7,ia 24 Sk 22 23,lm 25 6 24,i1 9 (.aq xM),st 6 9 25] [1,2,8,9,15,16,17]
 (ae [mv 26 2,lm 27 6 8,lm 28 6 9,i1 29 (.b6 (.t 26) [(.t 27),(.t 28)]),no 30 29] [1,2,15,16,17,30]
 (.cond (.t 30) (ae [cV 6 (.bool false)] [6]
 .ret)
 .skip)))))
 (.bD none [bn 31 .add 17 1,mv 17 31] [1,2,15,16,17])))))))
 (ae [cV 6 (.bool true)] [6]
 .ret))))
def bK:List ay:=[⟨6,true,none⟩]
theorem dA:aC Go.Proofs.Tryz.prog 56 32 bK bR=true:=by kernel_rfl
theorem dD{s1_0 s2_1}{s:ab}{Q:List AV→ab→Prop}:ok (au s1_0 s2_1) (fun r=>Q [.bool r] s)→FN Go.Proofs.Tryz.prog 56 [.sl false 6 s1_0.length (flat s1_0),.sl false 6 s2_1.length (flat s2_1),.fn 57 [] []] s Q:=by
 intro h
 refine FN.of (af mix) dA rfl (Nat.le_of_ble_eq_true rfl) ?_
 revert h
 rw[bR,bK,au]
 repeat'(first
  |with_reducible exact cF
  |with_reducible refine bj ?_ ?_
  |with_reducible refine cJ ?_
  |with_reducible refine ak (fun _(h:jj (ix s1_0 t2) (ix s2_1 t2)=some _)=>Hw h) (fun r4=>?_)
  |((with_reducible refine bf (fun(t2:Int)=>⟨[(1,.sl false 6 s2_1.length (flat s2_1)),(2,.fn 57 [] []),(15,.sl false 6 s1_0.length (flat s1_0)),(16,.int .i64 (s1_0.length:Int)),(17,.int .i64 t2)],[],s⟩) ?_ ?_);(first|exact rfl|simp -implicitDefEqProofs only[go_sem,seval,QM]);rintro J t2)
  |((with_reducible refine dY (fun(_:Unit)=>⟨[],[],s⟩) (fun J=>?_) ?_);rotate_left;rintro _)
  |simp -implicitDefEqProofs only[go_sem,seval,QM])
theorem dC{s1_0 s2_1}{s:ab}{r:Bool}(h:au s1_0 s2_1=some r):FE Go.Proofs.Tryz.prog 56 [.sl false 6 s1_0.length (flat s1_0),.sl false 6 s2_1.length (flat s2_1),.fn 57 [] []] s [.bool r] s:=dD ⟨r,h,rfl,rfl⟩
def fS(a_0:bF)(b_1:bF):Option (Bool):=
 aP (au a_0.an b_1.an) fun r1=>
 aP (fY r1 false (gA a_0.ar b_1.ar)) fun r2=>
 some (r1&&r2)
def Ah:IC:=
 (ae [i1 2 (.cW 5 (.t 0)),i1 3 (.cW 5 (.t 1)),cV 4 (.bool false)] [2,3]
 (.seq (.bD (some 11) [fa 5 0 2,ld 6 1 5,fa 7 0 3,ld 8 1 7,i1 9 (.call 56 [(.t 6),(.t 8),(.c (.fn 57 [] []))]),mv 10 9,fg 11 10 true 1 2,cS 12 10 true (.load 4 true (.t 11)),fg 13 10 true 1 3,cS 14 10 true (.load 4 true (.t 13)),Un 15 10 true 58 12 14,pf 16 10 15,mv 4 16] [4])
 .ret))
def yh:List ay:=[⟨4,true,none⟩]
theorem Lk:aC Go.Proofs.Tryz.prog 25 17 yh Ah=true:=by kernel_rfl
theorem Mv{a_0 b_1}{s:ab}{Q:List AV→ab→Prop}:ok (fS a_0 b_1) (fun r=>Q [.bool r] s)→FN Go.Proofs.Tryz.prog 25 [.agg [.sl false 6 a_0.an.length (flat a_0.an),.int .i64 a_0.ar.Kind,.int .i64 a_0.ar.N,.str a_0.ar.S.b,.sl false 4 a_0.ar.L.length (flat a_0.ar.L)],.agg [.sl false 6 b_1.an.length (flat b_1.an),.int .i64 b_1.ar.Kind,.int .i64 b_1.ar.N,.str b_1.ar.S.b,.sl false 4 b_1.ar.L.length (flat b_1.ar.L)]] s Q:=by
 intro h
 refine FN.of (af mix) Lk rfl (Nat.le_of_ble_eq_true rfl) ?_
 revert h
 rw[Ah,yh,fS]
 repeat'(first
  |with_reducible refine bH (fun _(h:au a_0.an b_1.an=some _)=>dC h) (fun _=>rfl) (fun r1=>?_)
  |with_reducible refine dg rfl (fun _(h:gA a_0.ar b_1.ar=some _)=>yk h) (fun _=>rfl) (fun r2=>?_)
  |simp -implicitDefEqProofs only[go_sem,seval])
theorem nb{a_0 b_1}{s:ab}{r:Bool}(h:fS a_0 b_1=some r):FE Go.Proofs.Tryz.prog 25 [.agg [.sl false 6 a_0.an.length (flat a_0.an),.int .i64 a_0.ar.Kind,.int .i64 a_0.ar.N,.str a_0.ar.S.b,.sl false 4 a_0.ar.L.length (flat a_0.ar.L)],.agg [.sl false 6 b_1.an.length (flat b_1.an),.int .i64 b_1.ar.Kind,.int .i64 b_1.ar.N,.str b_1.ar.S.b,.sl false 4 b_1.ar.L.length (flat b_1.ar.L)]] s [.bool r] s:=Mv ⟨r,h,rfl,rfl⟩
def bX:Nat→aa→aa→Option (Int)
 |0,_,_=>none
 |fuel+1,a_0,b_1=>
  if(decide (a_0.Kind<b_1.Kind))||((a_0.Kind==b_1.Kind)&&((decide (a_0.N<b_1.N))||((a_0.N==b_1.N)&&(Op.bytesLess a_0.S.b b_1.S.b))))then
   some (-1)
  else
   if((a_0.Kind !=b_1.Kind)||(a_0.N !=b_1.N))||(!(a_0.S.b==b_1.S.b))then
    some 1
   else
    Hg (
     mO (
      iter (fun(k4:Int)=>
       if(decide (k4<(a_0.L.length:Int)))&&(decide (k4<(b_1.L.length:Int)))then
        aK (0≤k4∧k4<a_0.L.length)<|
        aK (0≤k4∧k4<b_1.L.length)<|
        aP (bX fuel (ix a_0.L k4) (ix b_1.L k4)) fun r8=>
        if r8 !=0 then
         some (.inr (.inr r8))
        else
         some (.inl (bz (k4+1)))
       else
        some (.inr (.inl ()))) 0) (fun(_:Unit)=>
      some (.inl ()))
     (fun(t7:Int)=>some (.inr t7))) (fun(_:Unit)=>
     if decide ((a_0.L.length:Int)<(b_1.L.length:Int))then
      some (-1)
     else
      if decide ((a_0.L.length:Int)>(b_1.L.length:Int))then
       some 1
      else
       some 0)
    (fun(t3:Int)=>some t3)
def p9:IC:=
 (ae [i1 2 (.cW 4 (.t 0)),i1 3 (.cW 4 (.t 1)),mi 4 0] [2,3]
 (.seq (.block 0 (ae [fa 8 0 2,ld 9 1 8,fa 10 0 3,ld 11 1 10,bt 12 .lss 9 11,mv 13 12,fg 14 13 false 0 2,lg 15 13 false 1 14,fg 16 13 false 0 3,lg 17 13 false 1 16,s6 18 13 false .eql 15 17,c9 19 18 13 false,fg 20 19 true 1 2,lg 21 19 true 1 20,fg 22 19 true 1 3,lg 23 19 true 1 22,s6 24 19 true .lss 21 23,c9 25 24 19 true,fg 26 25 false 1 2,lg 27 25 false 1 26,fg 28 25 false 1 3,lg 29 25 false 1 28,s6 30 25 false .eql 27 29,c9 31 30 25 false,fg 32 31 true 2 2,lg 33 31 true 1 32,fg 34 31 true 2 3,lg 35 31 true 1 34,s6 36 31 true .lss 33 35,cS 37 25 false (.pick (.t 31) (.t 36) (.c (.bool false))),cS 38 19 true (.pick (.t 25) (.c (.bool true)) (.t 37)),cS 39 13 false (.pick (.t 19) (.t 38) (.c (.bool false))),po 40 13 39,mv 7 40] [2,3,7]
 (.cond (.t 7) (ae [mi 4 (-1)] [4]
 .ret)
 (ae [fa 42 0 2,ld 43 1 42,fa 44 0 3,ld 45 1 44,bt 46 .neq 43 45,mv 47 46,fg 48 47 false 1 2,lg 49 47 false 1 48,fg 50 47 false 1 3,lg 51 47 false 1 50,s6 52 47 false .neq 49 51,po 53 47 52,mv 54 53,fg 55 54 false 2 2,lg 56 54 false 1 55,fg 57 54 false 2 3,lg 58 54 false 1 57,s6 59 54 false .neq 56 58,po 60 54 59,mv 41 60] [2,3,41]
 (.cond (.t 41) (ae [mi 4 1] [4]
 .ret)
 .skip)))))
 (.join [(2,false),(3,false)] (ae [mi 5 0] [2,3,5]
 (.block 1 (.loop [(2,false),(3,false),(5,false)] (.seq (ae [mv 61 5,fa 62 3 2,ld 63 1 62,le 64 0 63,bt 65 .lss 61 64,mv 66 65,c9 67 5 66 true,fg 68 66 true 3 3,lg 69 66 true 1 68,cS 70 66 true (.len 0 (.t 69)),s6 71 66 true .lss 67 70,pf 72 66 71] [2,3,5,72]
 (.cond (.t 72) .skip
 (.exit 1)))
 (.seq (.block 2 (.seq (.bD (some 12) [fa 75 3 2,ld 76 1 75,mv 77 5,ia 78 oG 76 77,lm 79 4 78,fa 80 3 3,ld 81 1 80,mv 82 5,ia 83 oG 81 82,lm 84 4 83,c2 85 41 79 84,mv 6 85] [2,3,5,6])
 (ae [mv 86 6,bn 87 .neq 86 0] [2,3,5,6,87]
 (.cond (.t 87) (ae [mv 88 6,mv 4 88] [4]
 .ret)
 .skip))))
 (.bD none [mv 73 5,bn 74 .add 73 1,mv 5 74] [2,3,5]))))))
 (.seq (ae [fa 89 3 2,ld 90 1 89,le 91 0 90,fa 92 3 3,ld 93 1 92,le 94 0 93,bt 95 .lss 91 94] [2,3,95]
 (.cond (.t 95) (ae [mi 4 (-1)] [4]
 .ret)
 .skip))
 (.seq (ae [fa 96 3 2,ld 97 1 96,le 98 0 97,fa 99 3 3,ld 100 1 99,le 101 0 100,bt 102 .gtr 98 101] [102]
 (.cond (.t 102) (ae [mi 4 1] [4]
 .ret)
 .skip))
 (ae [mi 4 0] [4]
 .ret))))))
def oO:List ay:=[⟨4,true,none⟩]
theorem Bx:aC Go.Proofs.Tryz.prog 41 103 oO p9=true:=by kernel_rfl
theorem BZ{fuel:Nat}:∀{a_0:aa}{b_1:aa}{s:ab}{Q:List AV→ab→Prop},ok (bX fuel a_0 b_1) (fun r=>Q [.int .i64 r] s)→FN Go.Proofs.Tryz.prog 41 [.agg [.int .i64 a_0.Kind,.int .i64 a_0.N,.str a_0.S.b,.sl false 4 a_0.L.length (flat a_0.L)],.agg [.int .i64 b_1.Kind,.int .i64 b_1.N,.str b_1.S.b,.sl false 4 b_1.L.length (flat b_1.L)]] s Q:=by
 induction fuel with
 |zero=>intros;rename_i h;rw[bX]at h;exact absurd h (by rw[ok_none];exact fun h=>h)
 |succ fuel ih=>
 have ihfe:∀{a_0:aa}{b_1:aa}{s:ab}{r:Int},bX fuel a_0 b_1=some r→FE Go.Proofs.Tryz.prog 41 [.agg [.int .i64 a_0.Kind,.int .i64 a_0.N,.str a_0.S.b,.sl false 4 a_0.L.length (flat a_0.L)],.agg [.int .i64 b_1.Kind,.int .i64 b_1.N,.str b_1.S.b,.sl false 4 b_1.L.length (flat b_1.L)]] s [.int .i64 r] s:=fun h=>ih ⟨_,h,rfl,rfl⟩
 intro a_0 b_1 s Q
 intro h
 refine FN.of (af mix) Bx rfl (Nat.le_of_ble_eq_true rfl) ?_
 revert h
 rw[p9,oO,bX]
 repeat'(first
  |with_reducible exact cF
  |with_reducible refine bj ?_ ?_
  |with_reducible refine cJ ?_
  |with_reducible refine bH (fun _(h:bX fuel (ix a_0.L k4) (ix b_1.L k4)=some _)=>ihfe h) (fun _=>rfl) (fun r8=>?_)
  |((with_reducible refine bf (fun(k4:Int)=>⟨[(2,.loc [.int .i64 a_0.Kind,.int .i64 a_0.N,.str a_0.S.b,.sl false 4 a_0.L.length (flat a_0.L)]),(3,.loc [.int .i64 b_1.Kind,.int .i64 b_1.N,.str b_1.S.b,.sl false 4 b_1.L.length (flat b_1.L)]),(5,.int .i64 k4)],[],s⟩) ?_ ?_);(first|exact rfl|simp -implicitDefEqProofs only[go_sem,seval]);rintro J k4)
  |((with_reducible refine dY (fun(_:Unit)=>⟨[(2,.loc [.int .i64 a_0.Kind,.int .i64 a_0.N,.str a_0.S.b,.sl false 4 a_0.L.length (flat a_0.L)]),(3,.loc [.int .i64 b_1.Kind,.int .i64 b_1.N,.str b_1.S.b,.sl false 4 b_1.L.length (flat b_1.L)])],[],s⟩) (fun J=>?_) ?_);rotate_left;rintro _)
  |simp -implicitDefEqProofs only[go_sem,seval])
theorem BX{fuel:Nat}{a_0 b_1}{s:ab}{r:Int}(h:bX fuel a_0 b_1=some r):FE Go.Proofs.Tryz.prog 41 [.agg [.int .i64 a_0.Kind,.int .i64 a_0.N,.str a_0.S.b,.sl false 4 a_0.L.length (flat a_0.L)],.agg [.int .i64 b_1.Kind,.int .i64 b_1.N,.str b_1.S.b,.sl false 4 b_1.L.length (flat b_1.L)]] s [.int .i64 r] s:=BZ ⟨r,h,rfl,rfl⟩
def gv(a_0:aa)(b_1:aa):Option (Bool):=
 aP (bX iB a_0 b_1) fun r1=>
 some (r1==0)
def xr:IC:=
 (ae [i1 2 (.cW 4 (.t 0)),i1 3 (.cW 4 (.t 1)),cV 4 (.bool false)] [2,3]
 (ae [lm 5 4 2,lm 6 4 3,c2 7 41 5 6,bn 8 .eql 7 0,mv 4 8] [4]
 .ret))
def vh:List ay:=[⟨4,true,none⟩]
theorem HP:aC Go.Proofs.Tryz.prog 14 9 vh xr=true:=by kernel_rfl
theorem IA{a_0 b_1}{s:ab}{Q:List AV→ab→Prop}:ok (gv a_0 b_1) (fun r=>Q [.bool r] s)→FN Go.Proofs.Tryz.prog 14 [.agg [.int .i64 a_0.Kind,.int .i64 a_0.N,.str a_0.S.b,.sl false 4 a_0.L.length (flat a_0.L)],.agg [.int .i64 b_1.Kind,.int .i64 b_1.N,.str b_1.S.b,.sl false 4 b_1.L.length (flat b_1.L)]] s Q:=by
 intro h
 refine FN.of (af mix) HP rfl (Nat.le_of_ble_eq_true rfl) ?_
 revert h
 rw[xr,vh,gv]
 repeat'(first
  |with_reducible refine ak (fun _(h:bX iB a_0 b_1=some _)=>BX h) (fun r1=>?_)
  |simp -implicitDefEqProofs only[go_sem,seval])
theorem xO{a_0 b_1}{s:ab}{r:Bool}(h:gv a_0 b_1=some r):FE Go.Proofs.Tryz.prog 14 [.agg [.int .i64 a_0.Kind,.int .i64 a_0.N,.str a_0.S.b,.sl false 4 a_0.L.length (flat a_0.L)],.agg [.int .i64 b_1.Kind,.int .i64 b_1.N,.str b_1.S.b,.sl false 4 b_1.L.length (flat b_1.L)]] s [.bool r] s:=IA ⟨r,h,rfl,rfl⟩
def jA(a_0:ag)(b_1:ag):Option (Bool):=
 aP (gv a_0.V b_1.V) fun r1=>
 some ((r1&&((a_0.Stream==b_1.Stream)!=false))&&(a_0.Data.b==b_1.Data.b))
def xx:IC:=
 (ae [i1 2 (.cW 6 (.t 0)),i1 3 (.cW 6 (.t 1)),cV 4 (.bool false)] [2,3]
 (ae [fa 5 0 2,lm 6 4 5,fa 7 0 3,lm 8 4 7,c2 9 14 6 8,mv 10 9,fg 11 10 true 4 2,lg 12 10 true 1 11,fg 13 10 true 4 3,lg 14 10 true 1 13,cS 15 10 true (.Pa false (.t 12) (.t 14)),pf 16 10 15,mv 17 16,fg 18 17 true 5 2,lg 19 17 true 1 18,fg 20 17 true 5 3,lg 21 17 true 1 20,s6 22 17 true .eql 19 21,pf 23 17 22,mv 4 23] [4]
 .ret))
def vo:List ay:=[⟨4,true,none⟩]
theorem HT:aC Go.Proofs.Tryz.prog 110 24 vo xx=true:=by kernel_rfl
theorem IJ{a_0 b_1}{s:ab}{Q:List AV→ab→Prop}:ok (jA a_0 b_1) (fun r=>Q [.bool r] s)→FN Go.Proofs.Tryz.prog 110 [.agg [.int .i64 a_0.V.Kind,.int .i64 a_0.V.N,.str a_0.V.S.b,.sl false 4 a_0.V.L.length (flat a_0.V.L),.bool a_0.Stream,.str a_0.Data.b],.agg [.int .i64 b_1.V.Kind,.int .i64 b_1.V.N,.str b_1.V.S.b,.sl false 4 b_1.V.L.length (flat b_1.V.L),.bool b_1.Stream,.str b_1.Data.b]] s Q:=by
 intro h
 refine FN.of (af mix) HT rfl (Nat.le_of_ble_eq_true rfl) ?_
 revert h
 rw[xx,vo,jA]
 repeat'(first
  |with_reducible refine ak (fun _(h:gv a_0.V b_1.V=some _)=>xO h) (fun r1=>?_)
  |simp -implicitDefEqProofs only[go_sem,seval])
theorem II{a_0 b_1}{s:ab}{r:Bool}(h:jA a_0 b_1=some r):FE Go.Proofs.Tryz.prog 110 [.agg [.int .i64 a_0.V.Kind,.int .i64 a_0.V.N,.str a_0.V.S.b,.sl false 4 a_0.V.L.length (flat a_0.V.L),.bool a_0.Stream,.str a_0.Data.b],.agg [.int .i64 b_1.V.Kind,.int .i64 b_1.V.N,.str b_1.V.S.b,.sl false 4 b_1.V.L.length (flat b_1.V.L),.bool b_1.Stream,.str b_1.Data.b]] s [.bool r] s:=IJ ⟨r,h,rfl,rfl⟩
def jB(a_0:(List ag))(b_1:(List ag)):Option (Bool):=
 if(a_0.length:Int)!=(b_1.length:Int)then
  some false
 else
  Hg (
   mO (
    iter (fun(k2:Int)=>
     if decide (k2<(a_0.length:Int))then
      aK (0≤k2∧k2<a_0.length)<|
      aK (0≤k2∧k2<b_1.length)<|
      aP (jA (ix a_0 k2) (ix b_1 k2)) fun r4=>
      if !r4 then
       some (.inr (.inr false))
      else
       some (.inl (bz (k2+1)))
     else
      some (.inr (.inl ()))) 0) (fun(_:Unit)=>
    some (.inl ()))
   (fun(t3:Bool)=>some (.inr t3))) (fun(_:Unit)=>
   some true)
  (fun(t1:Bool)=>some t1)
def xy:IC:=
 (ae [cV 4 (.bool false)] [0,1]
 (.seq (ae [mv 6 0,le 7 0 6,mv 8 1,le 9 0 8,bt 10 .neq 7 9] [0,1,10]
 (.cond (.t 10) (ae [cV 4 (.bool false)] [4]
 .ret)
 .skip))
 (.join [] (ae [mi 5 0] [0,1,5]
 (.block 0 (.loop [(0,true),(1,true),(5,false)] (.seq (ae [mv 11 5,mv 12 0,le 13 0 12,bt 14 .lss 11 13] [0,1,5,14]
 (.cond (.t 14) .skip
 (.exit 0)))
 (.seq (.block 1 (.seq (.bD (some 10) [mv 17 0,mv 18 5,ia 19 Sk 17 18,lm 20 6 19,mv 21 1,mv 22 5,ia 23 Sk 21 22,lm 24 6 23,c2 25 110 20 24,no 26 25] [0,1,5,26])
 (.cond (.t 26) (ae [cV 4 (.bool false)] [4]
 .ret)
 .skip)))
 (.bD none [mv 15 5,bn 16 .add 15 1,mv 5 16] [0,1,5]))))))
 (ae [cV 4 (.bool true)] [4]
 .ret))))
def vp:List ay:=[⟨4,true,none⟩]
theorem HU:aC Go.Proofs.Tryz.prog 51 27 vp xy=true:=by kernel_rfl
theorem IL{a_0 b_1}{s:ab}{Q:List AV→ab→Prop}:ok (jB a_0 b_1) (fun r=>Q [.bool r] s)→FN Go.Proofs.Tryz.prog 51 [.sl false 6 a_0.length (flat a_0),.sl false 6 b_1.length (flat b_1)] s Q:=by
 intro h
 refine FN.of (af mix) HU rfl (Nat.le_of_ble_eq_true rfl) ?_
 revert h
 rw[xy,vp,jB]
 repeat'(first
  |with_reducible exact cF
  |with_reducible refine bj ?_ ?_
  |with_reducible refine cJ ?_
  |with_reducible refine bH (fun _(h:jA (ix a_0 k2) (ix b_1 k2)=some _)=>II h) (fun _=>rfl) (fun r4=>?_)
  |((with_reducible refine bf (fun(k2:Int)=>⟨[(0,.sl false 6 a_0.length (flat a_0)),(1,.sl false 6 b_1.length (flat b_1)),(5,.int .i64 k2)],[],s⟩) ?_ ?_);(first|exact rfl|simp -implicitDefEqProofs only[go_sem,seval]);rintro J k2)
  |((with_reducible refine dY (fun(_:Unit)=>⟨[],[],s⟩) (fun J=>?_) ?_);rotate_left;rintro _)
  |simp -implicitDefEqProofs only[go_sem,seval])
theorem IK{a_0 b_1}{s:ab}{r:Bool}(h:jB a_0 b_1=some r):FE Go.Proofs.Tryz.prog 51 [.sl false 6 a_0.length (flat a_0),.sl false 6 b_1.length (flat b_1)] s [.bool r] s:=IL ⟨r,h,rfl,rfl⟩
def gx(a_0:bF)(b_1:bF):Option (Bool):=
 aP (jB a_0.an b_1.an) fun r1=>
 aP (fY r1 false (gv a_0.ar b_1.ar)) fun r2=>
 some (r1&&r2)
def xz:IC:=
 (ae [i1 2 (.cW 5 (.t 0)),i1 3 (.cW 5 (.t 1)),cV 4 (.bool false)] [2,3]
 (.seq (.bD (some 11) [fa 5 0 2,ld 6 1 5,fa 7 0 3,ld 8 1 7,c2 9 51 6 8,mv 10 9,fg 11 10 true 1 2,cS 12 10 true (.load 4 true (.t 11)),fg 13 10 true 1 3,cS 14 10 true (.load 4 true (.t 13)),Un 15 10 true 14 12 14,pf 16 10 15,mv 4 16] [4])
 .ret))
def vq:List ay:=[⟨4,true,none⟩]
theorem HV:aC Go.Proofs.Tryz.prog 21 17 vq xz=true:=by kernel_rfl
theorem IM{a_0 b_1}{s:ab}{Q:List AV→ab→Prop}:ok (gx a_0 b_1) (fun r=>Q [.bool r] s)→FN Go.Proofs.Tryz.prog 21 [.agg [.sl false 6 a_0.an.length (flat a_0.an),.int .i64 a_0.ar.Kind,.int .i64 a_0.ar.N,.str a_0.ar.S.b,.sl false 4 a_0.ar.L.length (flat a_0.ar.L)],.agg [.sl false 6 b_1.an.length (flat b_1.an),.int .i64 b_1.ar.Kind,.int .i64 b_1.ar.N,.str b_1.ar.S.b,.sl false 4 b_1.ar.L.length (flat b_1.ar.L)]] s Q:=by
 intro h
 refine FN.of (af mix) HV rfl (Nat.le_of_ble_eq_true rfl) ?_
 revert h
 rw[xz,vq,gx]
 repeat'(first
  |with_reducible refine bH (fun _(h:jB a_0.an b_1.an=some _)=>IK h) (fun _=>rfl) (fun r1=>?_)
  |with_reducible refine dg rfl (fun _(h:gv a_0.ar b_1.ar=some _)=>xO h) (fun _=>rfl) (fun r2=>?_)
  |simp -implicitDefEqProofs only[go_sem,seval])
theorem pz{a_0 b_1}{s:ab}{r:Bool}(h:gx a_0 b_1=some r):FE Go.Proofs.Tryz.prog 21 [.agg [.sl false 6 a_0.an.length (flat a_0.an),.int .i64 a_0.ar.Kind,.int .i64 a_0.ar.N,.str a_0.ar.S.b,.sl false 4 a_0.ar.L.length (flat a_0.ar.L)],.agg [.sl false 6 b_1.an.length (flat b_1.an),.int .i64 b_1.ar.Kind,.int .i64 b_1.ar.N,.str b_1.ar.S.b,.sl false 4 b_1.ar.L.length (flat b_1.ar.L)]] s [.bool r] s:=IM ⟨r,h,rfl,rfl⟩
def ik(row_0:(List Int))(n_1:Int):Option (Int):=
 Hg (
  mO (
   iter (fun(k2:Int)=>
    if decide (k2<(row_0.length:Int))then
     aK (0≤k2∧k2<row_0.length)<|
     if(((ix row_0 k2)==n_1)&&(decide (n_1≥1)))&&(decide (n_1≤4096))then
      some (.inr (.inr (bz (k2+1))))
     else
      some (.inl (bz (k2+1)))
    else
     some (.inr (.inl ()))) 0) (fun(_:Unit)=>
   some (.inl ()))
  (fun(t3:Int)=>some (.inr t3))) (fun(_:Unit)=>
  some 0)
 (fun(t1:Int)=>some t1)
def ub:IC:=
 (ae [mi 4 0] [0,1]
 (.join [] (ae [mi 5 0] [0,1,5]
 (.block 0 (.loop [(0,true),(1,false),(5,false)] (.seq (ae [mv 6 5,mv 7 0,le 8 0 7,bt 9 .lss 6 8] [0,1,5,9]
 (.cond (.t 9) .skip
 (.exit 0)))
 (.seq (.block 1 (ae [mv 12 0,mv 13 5,ia 14 lZ 12 13,ld 15 1 14,mv 16 1,bt 17 .eql 15 16,mv 18 17,c9 19 1 18 true,jx 20 18 true .geq 19 1,pf 21 18 20,mv 22 21,c9 23 1 22 true,jx 24 22 true .leq 23 4096,pf 25 22 24] [0,1,5,25]
 (.cond (.t 25) (ae [mv 26 5,bn 27 .add 26 1,mv 4 27] [4]
 .ret)
 .skip)))
 (.bD none [mv 10 5,bn 11 .add 10 1,mv 5 11] [0,1,5]))))))
 (ae [mi 4 0] [4]
 .ret)))
def sM:List ay:=[⟨4,true,none⟩]
theorem FC:aC Go.Proofs.Tryz.prog 113 28 sM ub=true:=by kernel_rfl
theorem Gy{row_0 n_1}{s:ab}{Q:List AV→ab→Prop}:ok (ik row_0 n_1) (fun r=>Q [.int .i64 r] s)→FN Go.Proofs.Tryz.prog 113 [.sl false 1 row_0.length (flat row_0),.int .i64 n_1] s Q:=by
 intro h
 refine FN.of (af mix) FC rfl (Nat.le_of_ble_eq_true rfl) ?_
 revert h
 rw[ub,sM,ik]
 repeat'(first
  |((with_reducible refine bf (fun(k2:Int)=>⟨[(0,.sl false 1 row_0.length (flat row_0)),(1,.int .i64 n_1),(5,.int .i64 k2)],[],s⟩) ?_ ?_);(first|exact rfl|simp -implicitDefEqProofs only[go_sem,seval]);rintro J k2)
  |((with_reducible refine dY (fun(_:Unit)=>⟨[],[],s⟩) (fun J=>?_) ?_);rotate_left;rintro _)
  |simp -implicitDefEqProofs only[go_sem,seval])
theorem Gx{row_0 n_1}{s:ab}{r:Int}(h:ik row_0 n_1=some r):FE Go.Proofs.Tryz.prog 113 [.sl false 1 row_0.length (flat row_0),.int .i64 n_1] s [.int .i64 r] s:=Gy ⟨r,h,rfl,rfl⟩
def c8:Nat→aa→(List Int)→Option (aa)
 |0,_,_=>none
 |fuel+1,v_0,row_1=>
  if v_0.Kind==8 then
   aP (ik row_1 v_0.N) fun r1=>
   if r1==0 then
    some (aa.mk 0 0 (aA.mk []) ([]:List aa))
   else
    some (aa.mk 8 r1 (aA.mk []) ([]:List aa))
  else
   jn (
    if(v_0.Kind==6)||(v_0.Kind==7)then
     jn (
      iter (fun((l7,k8):(List aa)×Int)=>
       if decide (k8<(v_0.L.length:Int))then
        aK (0≤k8∧k8<v_0.L.length)<|
        aP (c8 fuel (ix v_0.L k8) row_1) fun r12=>
        aK ((l7.length+[r12].length)*56≤room)<|
        some (.inl (l7++[r12],bz (k8+1)))
       else
        some (.inr l7)) (([]:List aa),0)) fun(l6:(List aa))=>
     some (aa.mk v_0.Kind v_0.N v_0.S l6)
    else
     some v_0) fun(v2:aa)=>
   some v2
def sf:IC:=
 (ae [i1 2 (.cW 4 (.t 0)),i1 4 (.aq gB)] [1,2,4]
 (.seq (ae [fa 8 0 2,ld 9 1 8,bn 10 .eql 9 8] [1,2,4,10]
 (.cond (.t 10) (ae [mt 11 1,fa 12 1 2,ld 13 1 12,c2 14 113 11 13,mv 5 14] [4,5]
 (.seq (ae [mv 15 5,bn 16 .eql 15 0] [4,5,16]
 (.cond (.t 16) (ae [i1 17 (.build gB []),st 4 4 17] [4]
 .ret)
 .skip))
 (ae [mv 18 5,i1 19 (.build gB [(0,1,(.c (.int .i64 8))),(1,1,(.t 18))]),st 4 4 19] [4]
 .ret)))
 .skip))
 (.join [(2,false),(4,false)] (ae [fa 20 0 2,ld 21 1 20,bn 22 .eql 21 6,mv 23 22,fg 24 23 false 0 2,lg 25 23 false 1 24,jx 26 23 false .eql 25 7,po 27 23 26] [1,2,4,27]
 (.cond (.t 27) (ae [i1 6 (.iR true (.c (.sl true 4 0 [])))] [1,2,4,6]
 (.join [(2,false),(4,false),(6,false)] (ae [mi 7 0] [1,2,4,6,7]
 (.block 0 (.loop [(1,true),(2,false),(4,false),(6,false),(7,false)] (.seq (ae [mv 28 7,fa 29 3 2,ld 30 1 29,le 31 0 30,bt 32 .lss 28 31] [1,2,4,6,7,32]
 (.cond (.t 32) .skip
 (.exit 0)))
 (.seq (.block 1 (.bD none [mt 35 6,fa 36 3 2,ld 37 1 36,mv 38 7,ia 39 oG 37 38,lm 40 4 39,mv 41 1,c2 42 55 40 41,i1 43 (.aY 4 1 gB [(0,4,(.t 42))]),Q4 44 4 56 35 43,mt 6 44] [1,2,4,6,7]))
 (.bD none [mv 33 7,bn 34 .add 33 1,mv 7 34] [1,2,4,6,7]))))))
 (.bD none [mv 45 6,fa 46 3 2,st 1 46 45] [2,4])))
 .skip))
 (ae [lm 47 4 2,st 4 4 47] [4]
 .ret))))
def qH:List ay:=[⟨4,false,some (4,true)⟩]
theorem Dt:aC Go.Proofs.Tryz.prog 55 48 qH sf=true:=by kernel_rfl
theorem DK{fuel:Nat}:∀{v_0:aa}{row_1:(List Int)}{s:ab}{Q:List AV→ab→Prop},ok (c8 fuel v_0 row_1) (fun r=>Q [.agg [.int .i64 r.Kind,.int .i64 r.N,.str r.S.b,.sl false 4 r.L.length (flat r.L)]] s)→FN Go.Proofs.Tryz.prog 55 [.agg [.int .i64 v_0.Kind,.int .i64 v_0.N,.str v_0.S.b,.sl false 4 v_0.L.length (flat v_0.L)],.sl false 1 row_1.length (flat row_1)] s Q:=by
 induction fuel with
 |zero=>intros;rename_i h;rw[c8]at h;exact absurd h (by rw[ok_none];exact fun h=>h)
 |succ fuel ih=>
 have ihfe:∀{v_0:aa}{row_1:(List Int)}{s:ab}{r:aa},c8 fuel v_0 row_1=some r→FE Go.Proofs.Tryz.prog 55 [.agg [.int .i64 v_0.Kind,.int .i64 v_0.N,.str v_0.S.b,.sl false 4 v_0.L.length (flat v_0.L)],.sl false 1 row_1.length (flat row_1)] s [.agg [.int .i64 r.Kind,.int .i64 r.N,.str r.S.b,.sl false 4 r.L.length (flat r.L)]] s:=fun h=>ih ⟨_,h,rfl,rfl⟩
 intro v_0 row_1 s Q
 intro h
 refine FN.of (af mix) Dt rfl (Nat.le_of_ble_eq_true rfl) ?_
 revert h
 rw[sf,qH,c8]
 repeat'(first
  |with_reducible exact cF
  |with_reducible refine bj ?_ ?_
  |with_reducible refine cJ ?_
  |with_reducible refine ak (fun _(h:ik row_1 v_0.N=some _)=>Gx h) (fun r1=>?_)
  |with_reducible refine ak (fun _(h:c8 fuel (ix v_0.L k8) row_1=some _)=>ihfe h) (fun r12=>?_)
  |((with_reducible refine bf (fun((l7,k8):(List aa)×Int)=>⟨[(1,.sl false 1 row_1.length (flat row_1)),(2,.loc [.int .i64 v_0.Kind,.int .i64 v_0.N,.str v_0.S.b,.sl false 4 v_0.L.length (flat v_0.L)]),(4,.loc [.int .i64 0,.int .i64 0,.str (aA.mk []).b,.sl true 4 0 []]),(6,.sl true 4 l7.length (flat l7)),(7,.int .i64 k8)],[],s⟩) ?_ ?_);(first|exact rfl|simp -implicitDefEqProofs only[go_sem,seval]);rintro J ⟨l7,k8⟩)
  |((with_reducible refine cH (live:=[(2,false),(4,false),(6,false)]) (fun(l6:(List aa))=>⟨[(2,.loc [.int .i64 v_0.Kind,.int .i64 v_0.N,.str v_0.S.b,.sl false 4 v_0.L.length (flat v_0.L)]),(4,.loc [.int .i64 0,.int .i64 0,.str (aA.mk []).b,.sl true 4 0 []]),(6,.sl true 4 l6.length (flat l6))],[],s⟩) (fun J=>?_) ?_);rotate_left;rintro l6)
  |((with_reducible refine cH (live:=[(2,false),(4,false)]) (fun(v2:aa)=>⟨[(2,.loc [.int .i64 v2.Kind,.int .i64 v2.N,.str v2.S.b,.sl false 4 v2.L.length (flat v2.L)]),(4,.loc [.int .i64 0,.int .i64 0,.str (aA.mk []).b,.sl true 4 0 []])],[],s⟩) (fun J=>?_) ?_);rotate_left;rintro v2)
  |simp -implicitDefEqProofs only[go_sem,seval])
theorem ss{fuel:Nat}{v_0 row_1}{s:ab}{r:aa}(h:c8 fuel v_0 row_1=some r):FE Go.Proofs.Tryz.prog 55 [.agg [.int .i64 v_0.Kind,.int .i64 v_0.N,.str v_0.S.b,.sl false 4 v_0.L.length (flat v_0.L)],.sl false 1 row_1.length (flat row_1)] s [.agg [.int .i64 r.Kind,.int .i64 r.N,.str r.S.b,.sl false 4 r.L.length (flat r.L)]] s:=DK ⟨r,h,rfl,rfl⟩
def fR(row_0:(List Int))(l_1:(List ag))(given_2:aa):Option (bF):=
 jn (
  iter (fun((out5,k6):bF×Int)=>
   if decide (k6<(l_1.length:Int))then
    aK (0≤k6∧k6<l_1.length)<|
    jn (
     if k6==0 then
      aP (jy ((ix l_1 k6).V) (aA.mk [80,97,114,101,110,116])) fun r18=>
      some (ag.mk r18 ((ix l_1 k6).Stream) ((ix l_1 k6).Data))
     else
      some (ix l_1 k6)) fun(o17:ag)=>
    aP (c8 iB o17.V row_0) fun r19=>
    aK ((out5.an.length+[(ag.mk r19 o17.Stream o17.Data)].length)*80≤room)<|
    some (.inl ((bF.mk (out5.an++[(ag.mk r19 o17.Stream o17.Data)]) out5.ar),bz (k6+1)))
   else
    some (.inr out5)) ((bF.mk ([]:List ag) (aa.mk 0 0 (aA.mk []) ([]:List aa))),0)) fun(out4:bF)=>
 aP (c8 iB given_2 row_0) fun r20=>
 some (bF.mk out4.an r20)
def ot:IC:=
 (ae [i1 5 (.cW 4 (.t 2)),i1 6 (.aq [.sl true 6 0 [],.int .i64 0,.int .i64 0,.str [],.sl true 4 0 []])] [0,1,5,6]
 (ae [i1 7 (.aq [.sl true 6 0 [],.int .i64 0,.int .i64 0,.str [],.sl false 4 0 []])] [0,1,5,6,7]
 (.join [(0,true),(5,false),(6,false),(7,false)] (ae [mi 8 0] [0,1,5,6,7,8]
 (.block 0 (.loop [(0,true),(1,true),(5,false),(6,false),(7,false),(8,false)] (.seq (ae [mv 10 8,mv 11 1,le 12 0 11,bt 13 .lss 10 12] [0,1,5,6,7,8,13]
 (.cond (.t 13) .skip
 (.exit 0)))
 (.seq (.block 1 (ae [mv 16 1,mv 17 8,ia 18 Sk 16 17,lm 19 6 18,i1 9 (.aq xM),st 6 9 19] [0,1,5,6,7,8,9]
 (.join [(0,true),(1,true),(5,false),(6,false),(7,false),(8,false),(9,false)] (ae [mv 20 8,bn 21 .eql 20 0] [0,1,5,6,7,8,9,21]
 (.cond (.t 21) (.bD none [fa 22 0 9,lm 23 4 22,i1 24 (.call 54 [(.t 23),(.c (.str [80,97,114,101,110,116]))]),fa 25 0 9,st 4 25 24] [0,1,5,6,7,8,9])
 .skip))
 (ae [fa 26 0 9,lm 27 4 26,mv 28 0,c2 29 55 27 28,fa 30 0 9,st 4 30 29] [0,1,5,6,7,8,9]
 (.bD none [fa 31 0 7,i1 32 (.gW (.t 31)),lm 33 6 9,i1 34 (.aY 6 1 xM [(0,6,(.t 33))]),Q4 35 6 80 32 34,fa 36 0 7,st 1 36 35] [0,1,5,6,7,8])))))
 (.bD none [mv 14 8,bn 15 .add 14 1,mv 8 15] [0,1,5,6,7,8]))))))
 (ae [lm 37 4 5,mt 38 0,c2 39 55 37 38,fa 40 1 7,st 4 40 39] [6,7]
 (ae [lm 41 5 7,st 5 6 41] [6]
 .ret)))))
def nX:List ay:=[⟨6,false,some (5,true)⟩]
theorem Al:aC Go.Proofs.Tryz.prog 24 42 nX ot=true:=by kernel_rfl
theorem AD{row_0 l_1 given_2}{s:ab}{Q:List AV→ab→Prop}:ok (fR row_0 l_1 given_2) (fun r=>Q [.agg [.sl false 6 r.an.length (flat r.an),.int .i64 r.ar.Kind,.int .i64 r.ar.N,.str r.ar.S.b,.sl false 4 r.ar.L.length (flat r.ar.L)]] s)→FN Go.Proofs.Tryz.prog 24 [.sl false 1 row_0.length (flat row_0),.sl false 6 l_1.length (flat l_1),.agg [.int .i64 given_2.Kind,.int .i64 given_2.N,.str given_2.S.b,.sl false 4 given_2.L.length (flat given_2.L)]] s Q:=by
 intro h
 refine FN.of (af mix) Al rfl (Nat.le_of_ble_eq_true rfl) ?_
 revert h
 rw[ot,nX,fR]
 repeat'(first
  |with_reducible exact cF
  |with_reducible refine bj ?_ ?_
  |with_reducible refine cJ ?_
  |with_reducible refine ak (fun _(h:jy ((ix l_1 k6).V) (aA.mk [80,97,114,101,110,116])=some _)=>Iw h) (fun r18=>?_)
  |with_reducible refine ak (fun _(h:c8 iB o17.V row_0=some _)=>ss h) (fun r19=>?_)
  |with_reducible refine ak (fun _(h:c8 iB given_2 row_0=some _)=>ss h) (fun r20=>?_)
  |((with_reducible refine cH (live:=[(0,true),(1,true),(5,false),(6,false),(7,false),(8,false),(9,false)]) (fun(o17:ag)=>⟨[(0,.sl false 1 row_0.length (flat row_0)),(1,.sl false 6 l_1.length (flat l_1)),(5,.loc [.int .i64 given_2.Kind,.int .i64 given_2.N,.str given_2.S.b,.sl false 4 given_2.L.length (flat given_2.L)]),(6,.loc [.sl true 6 0 [],.int .i64 0,.int .i64 0,.str (aA.mk []).b,.sl true 4 0 []]),(7,.loc [.sl true 6 out5.an.length (flat out5.an),.int .i64 out5.ar.Kind,.int .i64 out5.ar.N,.str out5.ar.S.b,.sl false 4 out5.ar.L.length (flat out5.ar.L)]),(8,.int .i64 k6),(9,.loc [.int .i64 o17.V.Kind,.int .i64 o17.V.N,.str o17.V.S.b,.sl false 4 o17.V.L.length (flat o17.V.L),.bool o17.Stream,.str o17.Data.b])],[],s⟩) (fun J=>?_) ?_);rotate_left;rintro o17)
  |((with_reducible refine bf (fun((out5,k6):bF×Int)=>⟨[(0,.sl false 1 row_0.length (flat row_0)),(1,.sl false 6 l_1.length (flat l_1)),(5,.loc [.int .i64 given_2.Kind,.int .i64 given_2.N,.str given_2.S.b,.sl false 4 given_2.L.length (flat given_2.L)]),(6,.loc [.sl true 6 0 [],.int .i64 0,.int .i64 0,.str (aA.mk []).b,.sl true 4 0 []]),(7,.loc [.sl true 6 out5.an.length (flat out5.an),.int .i64 out5.ar.Kind,.int .i64 out5.ar.N,.str out5.ar.S.b,.sl false 4 out5.ar.L.length (flat out5.ar.L)]),(8,.int .i64 k6)],[],s⟩) ?_ ?_);(first|exact rfl|simp -implicitDefEqProofs only[go_sem,seval]);rintro J ⟨out5,k6⟩)
  |((with_reducible refine cH (live:=[(0,true),(5,false),(6,false),(7,false)]) (fun(out4:bF)=>⟨[(0,.sl false 1 row_0.length (flat row_0)),(5,.loc [.int .i64 given_2.Kind,.int .i64 given_2.N,.str given_2.S.b,.sl false 4 given_2.L.length (flat given_2.L)]),(6,.loc [.sl true 6 0 [],.int .i64 0,.int .i64 0,.str (aA.mk []).b,.sl true 4 0 []]),(7,.loc [.sl true 6 out4.an.length (flat out4.an),.int .i64 out4.ar.Kind,.int .i64 out4.ar.N,.str out4.ar.S.b,.sl false 4 out4.ar.L.length (flat out4.ar.L)])],[],s⟩) (fun J=>?_) ?_);rotate_left;rintro out4)
  |simp -implicitDefEqProofs only[go_sem,seval])
theorem AA{row_0 l_1 given_2}{s:ab}{r:bF}(h:fR row_0 l_1 given_2=some r):FE Go.Proofs.Tryz.prog 24 [.sl false 1 row_0.length (flat row_0),.sl false 6 l_1.length (flat l_1),.agg [.int .i64 given_2.Kind,.int .i64 given_2.N,.str given_2.S.b,.sl false 4 given_2.L.length (flat given_2.L)]] s [.agg [.sl false 6 r.an.length (flat r.an),.int .i64 r.ar.Kind,.int .i64 r.ar.N,.str r.ar.S.b,.sl false 4 r.ar.L.length (flat r.ar.L)]] s:=AD ⟨r,h,rfl,rfl⟩
end Go.AB
end
