/- A part of the proof: Vt1, Vt2. -/
import Derived.Test.YtkeagffgdajggaaGreatNu13
import Derived.Test.YtkeagffgdajggaaGreatNu20
import Derived.Lib.Bytealg
import Derived.Laws.Externs
import Derived.Lib.Walk
set_option linter.unusedSimpArgs false
set_option linter.unusedVariables false
section
set_option maxRecDepth 4000
namespace Go.AB
open Go
open Go.Proofs.Tryz (prog)
attribute[-go_sem] cE da bM cD Nat.add_zero nr bV
def fx(f_0:nd)(l_1:aL):Option ((List Int)×(List ag)×Int×Int):=
 aW (cj (bI.mk ([]:List Int) []) [l_1.eA]) fun r1=>
 yp (
  jG (
   iter (fun((Ct,o10):(List ag)×bI)=>
    if decide ((Ct.length:Int)<(o10.l_.length:Int))then
     aG (0<=(Ct.length:Int)/\(Ct.length:Int)<o10.l_.length)<|
     aW (fA f_0 (ix o10.l_ (Ct.length:Int))) fun r18=>
     if r18.2.2 !=0 then
      some (.inr (.inr (([]:List Int),([]:List ag),r18.2.1,r18.2.2,o10)))
     else
      jn (
       if(Ct.length:Int)==0 then
        aW (fy r18.1.V l_1.an) fun r24=>
        aW (cj o10 r24) fun r25=>
        some r25
       else
        aW (fI r18.1.V) fun r26=>
        aW (cj o10 r26) fun r27=>
        some r27) fun(o23:bI)=>
      aG ((Ct.length+[r18.1].length)*80<=room)<|
      some (.inl (Ct++[r18.1],o23))
    else
     some (.inr (.inl (Ct,o10)))) (([]:List ag),r1)) (fun((yr,o12):(List ag)×bI)=>
   some (.inl (yr,o12)))
  (fun((t13,t14,t15,t16,o17):(List Int)×(List ag)×Int×Int×bI)=>some (.inr (t13,t14,t15,t16,o17)))) (fun((jA,o3):(List ag)×bI)=>
  some (o3.l_,jA,0,0))
 (fun((t4,t5,t6,t7,o8):(List Int)×(List ag)×Int×Int×bI)=>some (t4,t5,t6,t7))
def rJ:IC:=
 (af [i1 3 (.dc 6 (.t 1)),i1 4 (.jL true (.c (.sl true 1 0 []))),i1 5 (.jL true (.c (.sl true 6 0 []))),mi 6 0,mi 7 0] [0,3]
 (af [i1 13 (.makeMap),i1 14 (.build [.arr 0 0 0 0,.oL] [(1,1,(.t 13))]),i1 15 (.Fq 1 2 (.t 14)),mv 8 15] [0,3,8]
 (af [mv 16 8,fa 17 0 3,ld 18 1 17,i1 19 (.bq 1 1 jV [(0,1,(.t 18))]),c2 20 100 16 19] [0,3,8]
 (af [i1 9 (.jL true (.c (.sl true 6 0 [])))] [0,3,8,9]
 (.join [(8,false),(9,false)] (.block 0 (.loop [(0,false),(3,false),(8,false),(9,false)] (.seq (af [mv 21 9,le 22 0 21,mv 23 8,nc 24 23,fa 25 0 24,i1 26 (.bf [.sl false 1 0 []] false (.t 25)),le 27 0 26,bt 28 .lss 22 27] [0,3,8,9,28]
 (.cond (.t 28) .skip
 (.exit 0)))
 (.block 1 (af [mv 30 0,mv 31 8,nc 32 31,fa 33 0 32,i1 34 (.bf [.sl false 1 0 []] false (.t 33)),mv 35 9,le 36 0 35,ia 37 jV 34 36,ld 38 1 37,c2 39 95 30 38,iV 29 39,ex 40 29 0,ex 41 29 1,ex 42 29 2,i1 10 (.aq zz),st 6 10 40,mv 11 41,mv 12 42] [0,3,8,9,10,11,12]
 (.seq (af [mv 43 12,bn 44 .neq 43 0] [0,3,8,9,10,11,12,44]
 (.cond (.t 44) (af [mv 45 11,mv 46 12,i1 4 (.jL true (.c (.sl true 1 0 []))),i1 5 (.jL true (.c (.sl true 6 0 []))),mv 6 45,mv 7 46] [4,5,6,7]
 .ret)
 .skip))
 (.join [(0,false),(3,false),(8,false),(9,false),(10,false)] (af [mv 47 9,le 48 0 47,bn 49 .eql 48 0] [0,3,8,9,10,49]
 (.cond (.t 49) (.bN none [mv 50 8,fa 51 0 10,lm 52 4 51,fa 53 2 3,lm 54 4 53,c2 55 101 52 54,c2 56 100 50 55] [0,3,8,9,10])
 (.bN none [mv 57 8,fa 58 0 10,lm 59 4 58,c1 60 102 59,c2 61 100 57 60] [0,3,8,9,10])))
 (.bN none [mt 62 9,lm 63 6 10,i1 64 (.bq 6 1 zz [(0,6,(.t 63))]),UF 65 6 80 62 64,mt 9 65] [0,3,8,9]))))))))
 (af [mv 66 8,nc 67 66,fa 68 0 67,i1 69 (.jh (.t 68)),mt 70 9,mt 4 69,mt 5 70,mi 6 0,mi 7 0] [4,5,6,7]
 .ret))))))
theorem B6:aE prog 47 71 [⟨4,true,none⟩,⟨5,true,none⟩,⟨6,true,none⟩,⟨7,true,none⟩] rJ=true:=by kernel_rfl
theorem CB{f_0 l_1}{s:ab}{Q:List AV->ab->Prop}(va0:dj s f_0):ok (fx f_0 l_1) (fun r=>Q [sT 1 r.1,sT 6 r.2.1,.int .i64 r.2.2.1,.int .i64 r.2.2.2] s)->FN prog 47 [.ref f_0.B 0,.agg [.int .i64 l_1.eA,sF 1 l_1.Path,.int .i64 l_1.an.Kind,.int .i64 l_1.an.N,.str l_1.an.S.b,sF 4 l_1.an.L]] s Q:=by
 intro h
 refine FN.forget ?_
 refine FO B6 rfl rfl ?_
 revert h
 rw[rJ,fx]
 repeat'(first
  |(with_reducible first|exact cW|refine bK ?_ ?_|refine de ?_|refine fun hh=>zS (by simp -implicitDefEqProofs only[go_sem,seval,ai bU,ai bU.symm,set_comm bU.symm]) (gJ (B0:=N2) (B0_in_:=N1) (by simp -implicitDefEqProofs only[go_sem,seval,ai bU,ai bU.symm,set_comm bU.symm]<;>simp only[bH]) (by simp -implicitDefEqProofs only[go_sem,seval,ai bU,ai bU.symm,set_comm bU.symm]<;>simp only[bH]) bU (cI (show ok (cj (bI.mk ([]:List Int) []) [l_1.eA]) _ from hh) fun r1=>?_))|refine ak (fun _(h:fA f_0 (ix o10.l_ (Ct.length:Int))=some _)=>ox (dj.mono (by assumption) (by repeat'(first|exact Sub.refl _|refine Sub.set ?_ ?_|assumption|(simp[ab.set, *];done)))) h) (fun r18=>?_)|refine ak (fun _(h:fy r18.1.V l_1.an=some _)=>Hw h) (fun r24=>?_)|refine fun hh=>gJ (B0:=N2) (B0_in_:=N1) (by simp -implicitDefEqProofs only[go_sem,seval,ai bU,ai bU.symm,set_comm bU.symm]<;>simp only[bH]) (by simp -implicitDefEqProofs only[go_sem,seval,ai bU,ai bU.symm,set_comm bU.symm]<;>simp only[bH]) bU (cI (show ok (cj o10 r24) _ from hh) fun r25=>?_)|refine ak (fun _(h:fI r18.1.V=some _)=>qU h) (fun r26=>?_)|refine fun hh=>gJ (B0:=N2) (B0_in_:=N1) (by simp -implicitDefEqProofs only[go_sem,seval,ai bU,ai bU.symm,set_comm bU.symm]<;>simp only[bH]) (by simp -implicitDefEqProofs only[go_sem,seval,ai bU,ai bU.symm,set_comm bU.symm]<;>simp only[bH]) bU (cI (show ok (cj o10 r26) _ from hh) fun r27=>?_))
  |((with_reducible refine dA (live:=[(0,false),(3,false),(8,false),(9,false),(10,false)]) (fun(o23:bI)=>⟨[(0,.ref f_0.B 0),(3,.loc [.int .i64 l_1.eA,sF 1 l_1.Path,.int .i64 l_1.an.Kind,.int .i64 l_1.an.N,.str l_1.an.S.b,sF 4 l_1.an.L]),(8,.ref N2 0),(9,sT 6 Ct),(10,.loc [.int .i64 r18.1.V.Kind,.int .i64 r18.1.V.N,.str r18.1.V.S.b,sF 4 r18.1.V.L,.bool r18.1.Stream,.str r18.1.Data.b])],[],((s.set N1 (.map (gK dI eH o23.Ua))).set N2 (.cells [sT 1 o23.l_,.mp N1]))⟩) (fun J=>?_) ?_);rotate_left;rintro o23)
  |((with_reducible refine bF (fun((Ct,o10):(List ag)×bI)=>⟨[(0,.ref f_0.B 0),(3,.loc [.int .i64 l_1.eA,sF 1 l_1.Path,.int .i64 l_1.an.Kind,.int .i64 l_1.an.N,.str l_1.an.S.b,sF 4 l_1.an.L]),(8,.ref N2 0),(9,sT 6 Ct)],[],((s.set N1 (.map (gK dI eH o10.Ua))).set N2 (.cells [sT 1 o10.l_,.mp N1]))⟩) ?_ ?_);(first|exact rfl|simp -implicitDefEqProofs only[go_sem,seval,ai bU,ai bU.symm,set_comm bU.symm]);rintro J ⟨Ct,o10⟩)
  |((with_reducible refine fh (live:=[(8,false),(9,false)]) (fun((jA,o3):(List ag)×bI)=>⟨[(8,.ref N2 0),(9,sT 6 jA)],[],((s.set N1 (.map (gK dI eH o3.Ua))).set N2 (.cells [sT 1 o3.l_,.mp N1]))⟩) (fun J=>?_) ?_);rotate_left;rintro⟨jA,o3⟩)
  |((fail_if_success (have _x:=sN1));with_reducible intro hh N1 hN1;(try simp only[cY]at hN1);have sN1:=hN1;revert hh)
  |(have _x:=sN1;clear _x;(fail_if_success (have _x:=sN2));with_reducible intro hh N2 hN2;(try simp only[cY]at hN2);obtain⟨bU,sN2⟩:=hN2;revert hh)
  |with_reducible exact fun hh=>⟨_,lx.set (lx.set (lx.refl _) (by simp[ab.set,sN1])) (by simp[ab.set,sN2]),hh⟩
  |simp -implicitDefEqProofs only[go_sem,seval,ai bU,ai bU.symm,set_comm bU.symm]
  |simp -implicitDefEqProofs only[go_sem,seval])
theorem CA{f_0 l_1}{s:ab}{r:(List Int)×(List ag)×Int×Int}(va0:dj s f_0)(h:fx f_0 l_1=some r):FE prog 47 [.ref f_0.B 0,.agg [.int .i64 l_1.eA,sF 1 l_1.Path,.int .i64 l_1.an.Kind,.int .i64 l_1.an.N,.str l_1.an.S.b,sF 4 l_1.an.L]] s [sT 1 r.1,sT 6 r.2.1,.int .i64 r.2.2.1,.int .i64 r.2.2.2] s:=CB va0 ⟨r,h,rfl,rfl⟩
structure s5 where
 B:(List UInt8)
 aaX:(List Bool)
instance:aK s5:=⟨2,fun x=>[sF 1 x.B,sF 1 x.aaX],(s5.mk [] []),by decide,fun _=>rfl,fun _=>rfl⟩
structure qq where
 fE:(List Int)
 cM:Int
instance:aK qq:=⟨2,fun x=>[sF 1 x.fE,.int .i64 x.cM],(qq.mk [] 0),by decide,fun _=>rfl,fun _=>rfl⟩
structure HJ where
 ae:(List ag)
 Bytes:s5
 Table:qq
instance:aK HJ:=⟨6,fun x=>[.bool true,sF 6 x.ae,sF 1 x.Bytes.B,sF 1 x.Bytes.aaX,sF 1 x.Table.fE,.int .i64 x.Table.cM],(HJ.mk [] (s5.mk [] []) (qq.mk [] 0)),by decide,fun _=>rfl,fun _=>rfl⟩
structure HK where
 eA:Int
 Path:(List Int)
 an:aa
instance:aK HK:=⟨6,fun x=>[.int .i64 x.eA,sF 1 x.Path,.int .i64 x.an.Kind,.int .i64 x.an.N,.str x.an.S.b,sF 4 x.an.L],(HK.mk 0 [] (aa.mk 0 0 (aw.mk []) [])),by decide,fun _=>rfl,fun _=>rfl⟩
def zB(v_0:aa)(gH:aw):Option (Int):=
 yp (
  jG (
   iter (fun(k2:Int)=>
    if(v_0.Kind==7)&&(decide (k2<(v_0.L.length:Int)))then
     aG (0<=k2/\k2<v_0.L.length)<|
     aG ((((ix v_0.L k2).Kind)==5)=true->0<=k2/\k2<v_0.L.length)<|
     if(((ix v_0.L k2).Kind)==5)&&(((ix v_0.L k2).S).b==gH.b)then
      some (.inr (.inr k2))
     else
      some (.inl (bj (k2+2)))
    else
     some (.inr (.inl ()))) 0) (fun(_:Unit)=>
   some (.inl ()))
  (fun(t3:Int)=>some (.inr t3))) (fun(_:Unit)=>
  some (-1))
 (fun(t1:Int)=>some t1)
def zA(v_0:aa)(gH:aw):Option (aa):=
 aW (zB v_0 gH) fun r1=>
 if decide (r1<0)then
  some v_0
 else
  aG (0<=(0:Int)/\0<=r1/\r1<=v_0.L.length)<|
  aG ((([]:List aa).length+(part v_0.L 0 r1).length)*56<=room)<|
  jn (
   if decide (bj (r1+2)<(v_0.L.length:Int))then
    aG (0<=bj (r1+2)/\bj (r1+2)<=(v_0.L.length:Int)/\(v_0.L.length:Int)<=v_0.L.length)<|
    aG (((part v_0.L 0 r1).length+(part v_0.L (bj (r1+2)) (v_0.L.length:Int)).length)*56<=room)<|
    some ((part v_0.L 0 r1)++(part v_0.L (bj (r1+2)) (v_0.L.length:Int)))
   else
    some (part v_0.L 0 r1)) fun(alk:(List aa))=>
  some (aa.mk v_0.Kind v_0.N v_0.S alk)
def mJ(l_0:(List Int))(n_1:Int):Option (Bool):=
 yp (
  jG (
   iter (fun(k2:Int)=>
    if decide (k2<(l_0.length:Int))then
     aG (0<=k2/\k2<l_0.length)<|
     if(ix l_0 k2)==n_1 then
      some (.inr (.inr true))
     else
      some (.inl (bj (k2+1)))
    else
     some (.inr (.inl ()))) 0) (fun(_:Unit)=>
   some (.inl ()))
  (fun(t3:Bool)=>some (.inr t3))) (fun(_:Unit)=>
  some false)
 (fun(t1:Bool)=>some t1)
def AG:IC:=
 (af [c6 4 (.bool false)] [0,1]
 (.join [] (af [mi 5 0] [0,1,5]
 (.block 0 (.loop [(0,true),(1,false),(5,false)] (.seq (af [mv 6 5,mv 7 0,le 8 0 7,bt 9 .lss 6 8] [0,1,5,9]
 (.cond (.t 9) .skip
 (.exit 0)))
 (.seq (.block 1 (af [mv 12 0,mv 13 5,ia 14 jV 12 13,ld 15 1 14,mv 16 1,bt 17 .eql 15 16] [0,1,5,17]
 (.cond (.t 17) (af [c6 4 (.bool true)] [4]
 .ret)
 .skip)))
 (.bN none [mv 10 5,bn 11 .add 10 1,mv 5 11] [0,1,5]))))))
 (af [c6 4 (.bool false)] [4]
 .ret)))
theorem Mh:aE prog 115 18 [⟨4,true,none⟩] AG=true:=by kernel_rfl
theorem M0{l_0 n_1}{s:ab}{Q:List AV->ab->Prop}:ok (mJ l_0 n_1) (fun r=>Q [.bool r] s)->FN prog 115 [sF 1 l_0,.int .i64 n_1] s Q:=by
 intro h
 refine FO Mh rfl rfl ?_
 revert h
 rw[AG,mJ]
 repeat'(first
  |((with_reducible refine bF (fun(k2:Int)=>⟨[(0,sF 1 l_0),(1,.int .i64 n_1),(5,.int .i64 k2)],[],s⟩) ?_ ?_);(first|exact rfl|simp -implicitDefEqProofs only[go_sem,seval]);rintro J k2)
  |((with_reducible refine fh (fun(_:Unit)=>⟨[],[],s⟩) (fun J=>?_) ?_);rotate_left;rintro _)
  |simp -implicitDefEqProofs only[go_sem,seval])
theorem MZ{l_0 n_1}{s:ab}{r:Bool}(h:mJ l_0 n_1=some r):FE prog 115 [sF 1 l_0,.int .i64 n_1] s [.bool r] s:=M0 ⟨r,h,rfl,rfl⟩
def eR(v_0:aa):Option (Bool):=some ((v_0.Kind==6)||(v_0.Kind==7))
def vo:IC:=
 (af [i1 1 (.dc 4 (.t 0)),c6 2 (.bool false)] [1]
 (af [fa 3 0 1,ld 4 1 3,bn 5 .eql 4 6,mv 6 5,fg 7 6 false 0 1,lg 8 6 false 1 7,kS 9 6 false .eql 8 7,po 10 6 9,mv 2 10] [2]
 .ret))
theorem GD:aE prog 60 11 [⟨2,true,none⟩] vo=true:=by kernel_rfl
theorem HD{v_0}{s:ab}{Q:List AV->ab->Prop}:ok (eR v_0) (fun r=>Q [.bool r] s)->FN prog 60 [oV v_0] s Q:=by
 intro h
 refine FO GD rfl rfl ?_
 revert h
 rw[vo,eR]
 repeat'(first
  |simp -implicitDefEqProofs only[go_sem,seval])
theorem wm{v_0}{s:ab}{r:Bool}(h:eR v_0=some r):FE prog 60 [oV v_0] s [.bool r] s:=HD ⟨r,h,rfl,rfl⟩
def fJ:Nat->(List Int)->aa->Option ((List Int))
 |0,_,_=>none
 |fuel+1,l_0,v_1=>
  aW (l8 (v_1.Kind==8) false (mJ l_0 v_1.N)) fun r1=>
  if(v_1.Kind==8)&&(!r1)then
   aG ((([]:List Int).length+l_0.length)*8<=room)<|
   aG ((l_0.length+[v_1.N].length)*8<=room)<|
   some (l_0++[v_1.N])
  else
   jn (
    iter (fun((l3,k4):(List Int)×Int)=>
     aW (eR v_1) fun r6=>
     if r6&&(decide (k4<(v_1.L.length:Int)))then
      aG (0<=k4/\k4<v_1.L.length)<|
      aW (fJ fuel l3 (ix v_1.L k4)) fun r7=>
      some (.inl (r7,bj (k4+1)))
     else
      some (.inr l3)) (l_0,0)) fun(l2:(List Int))=>
   some l2
def ya:IC:=
 (af [i1 3 (.dc 4 (.t 1)),i1 4 (.jL true (.c (.sl true 1 0 [])))] [0,3]
 (.seq (.seq (.bN (some 8) [fa 6 0 3,ld 7 1 6,bn 8 .eql 7 8,mv 9 8,dh 10 0 9 true,fg 11 9 true 1 3,lg 12 9 true 1 11,qd2 13 9 true 115 10 12,dq 14 9 true (.un .not (.t 13)),pf 15 9 14] [0,3,15])
 (.cond (.t 15) (.seq (.wq [] 8 [i1 16 (.bq 1 0 [] []),mt 17 0,UF 18 1 8 16 17,fa 19 1 3,ld 20 1 19,i1 21 (.bq 1 1 jV [(0,1,(.t 20))]),UF 22 1 8 18 21,mt 4 22] [4])
 .ret)
 .skip))
 (.join [(0,true)] (af [mi 5 0] [0,3,5]
 (.block 0 (.loop [(0,true),(3,false),(5,false)] (.seq (af [lm 23 4 3,c1 24 60 23,mv 25 24,dh 26 5 25 true,fg 27 25 true 3 3,lg 28 25 true 1 27,dq 29 25 true (.len 0 (.t 28)),sY 30 25 true .lss 26 29,pf 31 25 30] [0,3,5,31]
 (.cond (.t 31) .skip
 (.exit 0)))
 (.seq (.block 1 (.bN none [mt 34 0,fa 35 3 3,ld 36 1 35,mv 37 5,ia 38 qT 36 37,lm 39 4 38,c2 40 59 34 39,mt 0 40] [0,3,5]))
 (.bN none [mv 32 5,bn 33 .add 32 1,mv 5 33] [0,3,5]))))))
 (af [mt 41 0,mt 4 41] [4]
 .ret))))
theorem Jj:aE prog 59 42 [⟨4,false,none⟩] ya=true:=by kernel_rfl
theorem JQ{fuel:Nat}:∀{l_0:(List Int)}{v_1:aa}{s:ab}{Q:List AV->ab->Prop},ok (fJ fuel l_0 v_1) (fun r=>Q [sF 1 r] s)->FN prog 59 [sF 1 l_0,oV v_1] s Q:=by
 induction fuel with
 |zero=>intros;rename_i h;rw[fJ]at h;exact absurd h (by rw[ok_none];exact fun h=>h)
 |succ fuel ih=>
 have L6:∀{l_0:(List Int)}{v_1:aa}{s:ab}{r:(List Int)},fJ fuel l_0 v_1=some r->FE prog 59 [sF 1 l_0,oV v_1] s [sF 1 r] s:=fun h=>ih ⟨_,h,rfl,rfl⟩
 intro l_0 v_1 s Q
 intro h
 refine FO Jj rfl rfl ?_
 revert h
 rw[ya,fJ]
 repeat'(first
  |(with_reducible first|exact cW|refine bK ?_ ?_|refine de ?_|refine fC rfl (fun _(h:mJ l_0 v_1.N=some _)=>MZ h) (fun _=>rfl) (fun r1=>?_)|refine ak (fun _(h:eR v_1=some _)=>wm h) (fun r6=>?_)|refine ak (fun _(h:fJ fuel l3 (ix v_1.L k4)=some _)=>L6 h) (fun r7=>?_))
  |((with_reducible refine bF (fun((l3,k4):(List Int)×Int)=>⟨[(0,sF 1 l3),(3,.loc [.int .i64 v_1.Kind,.int .i64 v_1.N,.str v_1.S.b,sF 4 v_1.L]),(5,.int .i64 k4)],[],s⟩) ?_ ?_);(first|exact rfl|simp -implicitDefEqProofs only[go_sem,seval]);rintro J ⟨l3,k4⟩)
  |((with_reducible refine dA (fun(l2:(List Int))=>⟨[(0,sF 1 l2)],[],s⟩) (fun J=>?_) ?_);rotate_left;rintro l2)
  |simp -implicitDefEqProofs only[go_sem,seval])
theorem JP{fuel:Nat}{l_0 v_1}{s:ab}{r:(List Int)}(h:fJ fuel l_0 v_1=some r):FE prog 59 [sF 1 l_0,oV v_1] s [sF 1 r] s:=JQ ⟨r,h,rfl,rfl⟩
def mI(v_0:aa):Option ((List Int)):=
 aW (fJ lf ([]:List Int) v_0) fun r1=>
 some r1
def x4:IC:=
 (af [i1 1 (.dc 4 (.t 0)),i1 2 (.jL true (.c (.sl true 1 0 [])))] [1]
 (af [lm 3 4 1,i1 4 (.call 59 [(.c (.sl true 1 0 [])),(.t 3)]),mt 2 4] [2]
 .ret))
theorem Jg:aE prog 26 5 [⟨2,false,none⟩] x4=true:=by kernel_rfl
theorem JL{v_0}{s:ab}{Q:List AV->ab->Prop}:ok (mI v_0) (fun r=>Q [sF 1 r] s)->FN prog 26 [oV v_0] s Q:=by
 intro h
 refine FO Jg rfl rfl ?_
 revert h
 rw[x4,mI]
 repeat'(first
  |with_reducible refine ak (fun _(h:fJ lf ([]:List Int) v_0=some _)=>(by refine jZ ?_ (JP h);simp -implicitDefEqProofs only[go_sem,seval])) (fun r1=>?_)
  |simp -implicitDefEqProofs only[go_sem,seval])
theorem JK{v_0}{s:ab}{r:(List Int)}(h:mI v_0=some r):FE prog 26 [oV v_0] s [sF 1 r] s:=JL ⟨r,h,rfl,rfl⟩
def zC(v_0:aa):Option ((List Int)):=
 aW (mI v_0) fun r1=>
 jn (
  iter (fun((n5,k4):(List Int)×Int)=>
   if decide (k4<(r1.length:Int))then
    jn (
     aG (0<=k4/\k4<r1.length)<|
     aG ((decide (ix r1 k4>=1))=true->0<=k4/\k4<r1.length)<|
     if(decide (ix r1 k4>=1))&&(decide (ix r1 k4<=4096))then
      aG (0<=k4/\k4<r1.length)<|
      aG ((n5.length+[ix r1 k4].length)*8<=room)<|
      some (n5++[ix r1 k4])
     else
      some n5) fun(adO:(List Int))=>
    some (.inl (adO,bj (k4+1)))
   else
    some (.inr n5)) (([]:List Int),0)) fun(jA:(List Int))=>
 some jA
def Ld(l_0:(List Int))(n_1:Int):Option (Bool):=
 yp (
  jG (
   iter (fun(k2:Int)=>
    if decide (k2<(l_0.length:Int))then
     aG (0<=k2/\k2<l_0.length)<|
     if(ix l_0 k2)==n_1 then
      some (.inr (.inr true))
     else
      some (.inl (bj (k2+1)))
    else
     some (.inr (.inl ()))) 0) (fun(_:Unit)=>
   some (.inl ()))
  (fun(t3:Bool)=>some (.inr t3))) (fun(_:Unit)=>
  some false)
 (fun(t1:Bool)=>some t1)
def HL(l_0:(List Int))(Cp:(List Int)):Option ((List Int)):=
 aG ((([]:List Int).length+l_0.length)*8<=room)<|
 jn (
  iter (fun((jA,k3):(List Int)×Int)=>
   if decide (k3<(Cp.length:Int))then
    jn (
     aG (0<=k3/\k3<Cp.length)<|
     aW (Ld jA (ix Cp k3)) fun r8=>
     if !r8 then
      aG (0<=k3/\k3<Cp.length)<|
      aG ((jA.length+[ix Cp k3].length)*8<=room)<|
      some (jA++[ix Cp k3])
     else
      some jA) fun(adO:(List Int))=>
    some (.inl (adO,bj (k3+1)))
   else
    some (.inr jA)) (l_0,0)) fun(alj:(List Int))=>
 some alj
def PZ(v_0:aa)(mW:aa):Option ((List Int)):=
 aW (zA v_0 (aw.mk [80,97,114,101,110,116])) fun r1=>
 aW (zC r1) fun r2=>
 aW (zC mW) fun r3=>
 aW (HL r2 r3) fun r4=>
 some r4
open Go.RowKit
theorem DF(a b:ByteArray)(w:World):Calls prog 202 #[.string a,.string b] w fun e w'=>e=.returned (.int .i64 (Lib.compareBytes a.data.toList b.data.toList))/\w'=w:=by
 have mixed:=mix
 have t3:prog.underlying 3=some (.int .i64):=by kernel_rfl
 have u3:=run_underlying t3
 have t9:prog.underlying 9=some .string:=by kernel_rfl
 have u9:=run_underlying t9
 go_enter Go.Proofs.Tryz.func202,(show Go.Proofs.Tryz.f202.ntmps=8 from rfl)
 go_wp2
 rw[run_callFunc_extern Go.Proofs.Tryz.func242 (by kernel_rfl) (by kernel_rfl) (by kernel_rfl) (e:=Extern.BytealgCompare.compare) (by kernel_rfl),Lib.run_compareString]
 simp only[Result.andThen]
 rw[Oper.upon_value]
 go_wp2
 go_ret
 exact⟨rfl,rfl⟩
def rp(a b:aw):Option Int:=some (Lib.compareBytes a.b b.b)
theorem LL{a b:aw}{s:ab}{Q:List AV->ab->Prop}(h:ok (rp a b) fun r=>Q [.int .i64 r] s):FN prog 202 [.str a.b,.str b.b] s Q:=by
 unfold rp at h
 rw[aA]at h
 intro G w vs h1 h2 h3 h4
 obtain⟨hl,hr⟩:=h4
 have e0:∃v0 v1,vs= #[v0,v1]/\VR w G.R (.str a.b) v0/\VR w G.R (.str b.b) v1:=by
  obtain⟨l⟩:=vs
  match l,hl with
  |[v0,v1],_=>exact⟨v0,v1,rfl,hr 0 _ _ rfl rfl,hr 1 _ _ rfl rfl⟩
  |[],hl=>simp at hl
  |[_],hl=>simp at hl
  |_::_::_::_,hl=>simp at hl
 obtain⟨v0,v1,rfl,k0,k1⟩:=e0
 rw[VR.eW k0,VR.eW k1]
 refine(DF _ _ w).mono fun e w'⟨he,hw⟩=>?_
 subst hw
 exact⟨_,_,s,G,he,h,h1,h3,⟨.int _ _,trivial⟩,ax.refl G w'⟩
theorem LK{a b:aw}{s:ab}{r:Int}(h:rp a b=some r):FE prog 202 [.str a.b,.str b.b] s [.int .i64 r] s:=LL ⟨r,h,rfl,rfl⟩
end Go.AB
end
section
set_option maxRecDepth 4000
namespace Go.AB
open Go
open Go.Proofs.Tryz (prog)
attribute[-go_sem] cE da bM cD Nat.add_zero nr bV
structure dP where
 ae:(List ag)
 an:aa
instance:aK dP:=⟨5,fun x=>[sF 6 x.ae,.int .i64 x.an.Kind,.int .i64 x.an.N,.str x.an.S.b,sF 4 x.an.L],(dP.mk [] (aa.mk 0 0 (aw.mk []) [])),by decide,fun _=>rfl,fun _=>rfl⟩
def fR(a_0:aw)(b_1:aw):Option (Int):=
 aW (rp a_0 b_1) fun r1=>
 some r1
def pI:IC:=
 (af [mi 4 0] [0,1]
 (af [mv 5 0,mv 6 1,c2 7 202 5 6,mv 4 7] [4]
 .ret))
theorem zi:aE prog 166 8 [⟨4,true,none⟩] pI=true:=by kernel_rfl
theorem zJ{a_0 b_1}{s:ab}{Q:List AV->ab->Prop}:ok (fR a_0 b_1) (fun r=>Q [.int .i64 r] s)->FN prog 166 [.str a_0.b,.str b_1.b] s Q:=by
 intro h
 refine FO zi rfl rfl ?_
 revert h
 rw[pI,fR]
 repeat'(first
  |with_reducible refine ak (fun _(h:rp a_0 b_1=some _)=>LK h) (fun r1=>?_)
  |simp -implicitDefEqProofs only[go_sem,seval])
theorem zI{a_0 b_1}{s:ab}{r:Int}(h:fR a_0 b_1=some r):FE prog 166 [.str a_0.b,.str b_1.b] s [.int .i64 r] s:=zJ ⟨r,h,rfl,rfl⟩
mutual
def cq:Nat->aa->aa->Option (Int)
 |0,_,_=>none
 |fuel+1,a_0,b_1=>
  aW (bR a_0.Kind b_1.Kind) fun r1=>
  aW (bR a_0.N b_1.N) fun r2=>
  aW (fR a_0.S b_1.S) fun r3=>
  aW (fQ [r1,r2,r3]) fun r4=>
  if r4 !=0 then
   some r4
  else
   aW (au fuel a_0.L b_1.L) fun r5=>
   some r5
def au:Nat->(List aa)->(List aa)->Option (Int)
 |0,_,_=>none
 |fuel+1,lq,nR=>
  yp (
   jG (
    iter (fun(t4:Int)=>
     if decide (t4<(lq.length:Int))then
      aG (0<=t4/\t4<lq.length)<|
      if decide (t4>=(nR.length:Int))then
       some (.inr (.inr (1:Int)))
      else
       aG (0<=t4/\t4<nR.length)<|
       aW (cq fuel (ix lq t4) (ix nR t4)) fun r8=>
       if r8 !=0 then
        some (.inr (.inr r8))
       else
        some (.inl (bj (t4+1)))
     else
      some (.inr (.inl ()))) 0) (fun(_:Unit)=>
    some (.inl ()))
   (fun(t7:Int)=>some (.inr t7))) (fun(_:Unit)=>
   if decide ((lq.length:Int)<(nR.length:Int))then
    some (-1)
   else
    some 0)
  (fun(t3:Int)=>some t3)
end
def rO:IC:=
 (af [i1 2 (.dc 4 (.t 0)),i1 3 (.dc 4 (.t 1)),mi 4 0] [2,3]
 (.seq (.seq (.bN (some 18) [fa 6 0 2,ld 7 1 6,fa 8 0 3,ld 9 1 8,c2 10 165 7 9,fa 11 1 2,ld 12 1 11,fa 13 1 3,ld 14 1 13,c2 15 165 12 14,fa 16 2 2,ld 17 1 16,fa 18 2 3,ld 19 1 18,c2 20 166 17 19,i1 21 (.bq 1 3 [.int .i64 0,.int .i64 0,.int .i64 0] [(0,1,(.t 10)),(1,1,(.t 15)),(2,1,(.t 20))]),c1 22 164 21,mv 5 22] [2,3,5])
 (af [mv 23 5,bn 24 .neq 23 0] [2,3,5,24]
 (.cond (.t 24) (af [mv 25 5,mv 4 25] [4]
 .ret)
 .skip)))
 (af [fa 26 3 2,ld 27 1 26,fa 28 3 3,ld 29 1 28,i1 30 (.call 167 [(.t 27),(.t 29),(.c (.fn 114 [] []))]),mv 4 30] [4]
 .ret)))
theorem Cb:aE prog 114 31 [⟨4,true,none⟩] rO=true:=by kernel_rfl
theorem OH:(pz prog 114=true)=True:=eq_true (by kernel_rfl)
def cy:IC:=
 (af [mi 6 0] [0,1,2]
 (.join [(0,true),(1,true)] (af [mv 11 0,le 12 0 11,mi 13 0] [0,1,2,11,12,13]
 (.block 0 (.loop [(0,true),(1,true),(2,false),(11,true),(12,false),(13,false)] (af [bt 14 .lss 13 12] [0,1,2,11,12,13,14]
 (.seq (.cond (.t 14) .skip
 (.exit 0))
 (.seq (.block 1 (af [mv 15 13,ia 16 qT 11 13,lm 17 4 16,i1 8 (.aq iA),mv 7 15,st 4 8 17] [0,1,2,7,8,11,12,13]
 (.seq (af [mv 18 7,mv 19 1,le 20 0 19,bt 21 .geq 18 20] [0,1,2,7,8,11,12,13,21]
 (.cond (.t 21) (af [mi 6 1] [6]
 .ret)
 .skip))
 (af [mv 22 1,mv 23 7,ia 24 qT 22 23,lm 25 4 24,i1 9 (.aq iA),st 4 9 25] [0,1,2,8,9,11,12,13]
 (af [mv 26 2,lm 27 4 8,lm 28 4 9,i1 29 (.cu (.t 26) [(.t 27),(.t 28)]),mv 10 29] [0,1,2,10,11,12,13]
 (af [mv 30 10,bn 31 .neq 30 0] [0,1,2,10,11,12,13,31]
 (.cond (.t 31) (af [mv 32 10,mv 6 32] [6]
 .ret)
 .skip)))))))
 (.bN none [bn 33 .add 13 1,mv 13 33] [0,1,2,11,12,13])))))))
 (.seq (af [mt 34 0,le 35 0 34,mt 36 1,le 37 0 36,bt 38 .lss 35 37] [38]
 (.cond (.t 38) (af [mi 6 (-1)] [6]
 .ret)
 .skip))
 (af [mi 6 0] [6]
 .ret))))
theorem ey:aE prog 167 39 [⟨6,true,none⟩] cy=true:=by kernel_rfl
theorem Br{fuel:Nat}:(∀{a_0:aa}{b_1:aa}{s:ab}{Q:List AV->ab->Prop},ok (cq fuel a_0 b_1) (fun r=>Q [.int .i64 r] s)->FN prog 114 [oV a_0,oV b_1] s Q)
 /\(∀{lq:(List aa)}{nR:(List aa)}{s:ab}{Q:List AV->ab->Prop},ok (au fuel lq nR) (fun r=>Q [.int .i64 r] s)->FN prog 167 [sF 4 lq,sF 4 nR,.fn 114 [] []] s Q):=by
 induction fuel with
 |zero=>exact⟨by(intros;rename_i h;rw[cq]at h;exact absurd h (by rw[ok_none];exact fun h=>h)),by(intros;rename_i h;rw[au]at h;exact absurd h (by rw[ok_none];exact fun h=>h))⟩
 |succ fuel ih=>
 have Wt:∀{a_0:aa}{b_1:aa}{s:ab}{r:Int},cq fuel a_0 b_1=some r->FE prog 114 [oV a_0,oV b_1] s [.int .i64 r] s:=fun h=>ih.1 ⟨_,h,rfl,rfl⟩
 have Wu:∀{lq:(List aa)}{nR:(List aa)}{s:ab}{r:Int},au fuel lq nR=some r->FE prog 167 [sF 4 lq,sF 4 nR,.fn 114 [] []] s [.int .i64 r] s:=fun h=>ih.2 ⟨_,h,rfl,rfl⟩
 refine⟨?_,?_⟩
 ·intro a_0 b_1 s Q h
  refine FO Cb rfl rfl ?_
  revert h
  rw[rO,cq]
  repeat'(first
   |(with_reducible first|exact cW|refine bK ?_ ?_|refine de ?_|refine b6 (fun _(h:bR a_0.Kind b_1.Kind=some _)=>iM h) (fun _=>rfl) (fun r1=>?_)|refine b6 (fun _(h:bR a_0.N b_1.N=some _)=>iM h) (fun _=>rfl) (fun r2=>?_)|refine b6 (fun _(h:fR a_0.S b_1.S=some _)=>zI h) (fun _=>rfl) (fun r3=>?_)|refine b6 (fun _(h:fQ [r1,r2,r3]=some _)=>(by refine jZ ?_ (Af h);simp -implicitDefEqProofs only[go_sem,seval])) (fun _=>rfl) (fun r4=>?_)|refine ak (fun _(h:au fuel a_0.L b_1.L=some _)=>Wu h) (fun r5=>?_))
   |simp -implicitDefEqProofs only[go_sem,seval])
 ·intro lq nR s Q h
  refine FO ey rfl rfl ?_
  revert h
  rw[cy,au]
  repeat'(first
   |(with_reducible first|exact cW|refine bK ?_ ?_|refine de ?_|refine ak (fun _(h:cq fuel (ix lq t4) (ix nR t4)=some _)=>Wt h) (fun r8=>?_))
   |((with_reducible refine bF (fun(t4:Int)=>⟨[(0,sF 4 lq),(1,sF 4 nR),(2,.fn 114 [] []),(11,sF 4 lq),(12,.int .i64 (lq.length:Int)),(13,.int .i64 t4)],[],s⟩) ?_ ?_);(first|exact rfl|simp -implicitDefEqProofs only[go_sem,seval,OH]);rintro J t4)
   |((with_reducible refine fh (fun(_:Unit)=>⟨[(0,sF 4 lq),(1,sF 4 nR)],[],s⟩) (fun J=>?_) ?_);rotate_left;rintro _)
   |simp -implicitDefEqProofs only[go_sem,seval,OH])
theorem CS{fuel:Nat}:∀{a_0:aa}{b_1:aa}{s:ab}{Q:List AV->ab->Prop},ok (cq fuel a_0 b_1) (fun r=>Q [.int .i64 r] s)->FN prog 114 [oV a_0,oV b_1] s Q:=Br.1
theorem CR{fuel:Nat}{a_0 b_1}{s:ab}{r:Int}(h:cq fuel a_0 b_1=some r):FE prog 114 [oV a_0,oV b_1] s [.int .i64 r] s:=CS ⟨r,h,rfl,rfl⟩
def il(a_0:aa)(b_1:aa):Option (Bool):=
 aW (cq lf a_0 b_1) fun r1=>
 some (r1==0)
def yl:IC:=
 (af [i1 2 (.dc 4 (.t 0)),i1 3 (.dc 4 (.t 1)),c6 4 (.bool false)] [2,3]
 (af [lm 5 4 2,lm 6 4 3,c2 7 114 5 6,bn 8 .eql 7 0,mv 4 8] [4]
 .ret))
theorem Ju:aE prog 58 9 [⟨4,true,none⟩] yl=true:=by kernel_rfl
theorem Ka{a_0 b_1}{s:ab}{Q:List AV->ab->Prop}:ok (il a_0 b_1) (fun r=>Q [.bool r] s)->FN prog 58 [oV a_0,oV b_1] s Q:=by
 intro h
 refine FO Ju rfl rfl ?_
 revert h
 rw[yl,il]
 repeat'(first
  |with_reducible refine ak (fun _(h:cq lf a_0 b_1=some _)=>CR h) (fun r1=>?_)
  |simp -implicitDefEqProofs only[go_sem,seval])
theorem yC{a_0 b_1}{s:ab}{r:Bool}(h:il a_0 b_1=some r):FE prog 58 [oV a_0,oV b_1] s [.bool r] s:=Ka ⟨r,h,rfl,rfl⟩
def ke(a_0:ag)(b_1:ag):Option (Bool):=
 aW (l8 (((a_0.Stream==b_1.Stream)!=false)&&(a_0.Data.b==b_1.Data.b)) false (il a_0.V b_1.V)) fun r1=>
 some ((((a_0.Stream==b_1.Stream)!=false)&&(a_0.Data.b==b_1.Data.b))&&r1)
def xS:IC:=
 (af [i1 2 (.dc 6 (.t 0)),i1 3 (.dc 6 (.t 1)),c6 4 (.bool false)] [2,3]
 (.seq (.bN (some 18) [fa 5 4 2,ld 6 1 5,fa 7 4 3,ld 8 1 7,i1 9 (.U4 false (.t 6) (.t 8)),mv 10 9,fg 11 10 true 5 2,lg 12 10 true 1 11,fg 13 10 true 5 3,lg 14 10 true 1 13,sY 15 10 true .eql 12 14,pf 16 10 15,mv 17 16,fg 18 17 true 0 2,dq 19 17 true (.load 4 true (.t 18)),fg 20 17 true 0 3,dq 21 17 true (.load 4 true (.t 20)),qd2 22 17 true 58 19 21,pf 23 17 22,mv 4 23] [4])
 .ret))
theorem I8:aE prog 57 24 [⟨4,true,none⟩] xS=true:=by kernel_rfl
theorem IZ{a_0 b_1}{s:ab}{Q:List AV->ab->Prop}:ok (ke a_0 b_1) (fun r=>Q [.bool r] s)->FN prog 57 [.agg [.int .i64 a_0.V.Kind,.int .i64 a_0.V.N,.str a_0.V.S.b,sF 4 a_0.V.L,.bool a_0.Stream,.str a_0.Data.b],.agg [.int .i64 b_1.V.Kind,.int .i64 b_1.V.N,.str b_1.V.S.b,sF 4 b_1.V.L,.bool b_1.Stream,.str b_1.Data.b]] s Q:=by
 intro h
 refine FO I8 rfl rfl ?_
 revert h
 rw[xS,ke]
 repeat'(first
  |with_reducible refine fC rfl (fun _(h:il a_0.V b_1.V=some _)=>yC h) (fun _=>rfl) (fun r1=>?_)
  |simp -implicitDefEqProofs only[go_sem,seval])
theorem IY{a_0 b_1}{s:ab}{r:Bool}(h:ke a_0 b_1=some r):FE prog 57 [.agg [.int .i64 a_0.V.Kind,.int .i64 a_0.V.N,.str a_0.V.S.b,sF 4 a_0.V.L,.bool a_0.Stream,.str a_0.Data.b],.agg [.int .i64 b_1.V.Kind,.int .i64 b_1.V.N,.str b_1.V.S.b,sF 4 b_1.V.L,.bool b_1.Stream,.str b_1.Data.b]] s [.bool r] s:=IZ ⟨r,h,rfl,rfl⟩
def ar(lq:(List ag))(nR:(List ag)):Option (Bool):=
 if(lq.length:Int)!=(nR.length:Int)then
  some false
 else
  yp (
   jG (
    iter (fun(t2:Int)=>
     if decide (t2<(lq.length:Int))then
      aG (0<=t2/\t2<lq.length)<|
      aG (0<=t2/\t2<nR.length)<|
      aW (ke (ix lq t2) (ix nR t2)) fun r4=>
      if !r4 then
       some (.inr (.inr false))
      else
       some (.inl (bj (t2+1)))
     else
      some (.inr (.inl ()))) 0) (fun(_:Unit)=>
    some (.inl ()))
   (fun(t3:Bool)=>some (.inr t3))) (fun(_:Unit)=>
   some true)
  (fun(t1:Bool)=>some t1)
theorem SN:(pz prog 57=true)=True:=eq_true (by kernel_rfl)
def cg:IC:=
 (af [c6 6 (.bool false)] [0,1,2]
 (.seq (af [mv 10 0,le 11 0 10,mv 12 1,le 13 0 12,bt 14 .neq 11 13] [0,1,2,14]
 (.cond (.t 14) (af [c6 6 (.bool false)] [6]
 .ret)
 .skip))
 (.join [] (af [mt 15 0,le 16 0 15,mi 17 0] [1,2,15,16,17]
 (.block 0 (.loop [(1,true),(2,false),(15,true),(16,false),(17,false)] (af [bt 18 .lss 17 16] [1,2,15,16,17,18]
 (.seq (.cond (.t 18) .skip
 (.exit 0))
 (.seq (.block 1 (af [mv 19 17,ia 20 Qu 15 17,lm 21 6 20,i1 8 (.aq zz),mv 7 19,st 6 8 21] [1,2,7,8,15,16,17]
 (af [mv 22 1,mv 23 7,ia 24 Qu 22 23,lm 25 6 24,i1 9 (.aq zz),st 6 9 25] [1,2,8,9,15,16,17]
 (af [mv 26 2,lm 27 6 8,lm 28 6 9,i1 29 (.cu (.t 26) [(.t 27),(.t 28)]),no 30 29] [1,2,15,16,17,30]
 (.cond (.t 30) (af [c6 6 (.bool false)] [6]
 .ret)
 .skip)))))
 (.bN none [bn 31 .add 17 1,mv 17 31] [1,2,15,16,17])))))))
 (af [c6 6 (.bool true)] [6]
 .ret))))
theorem dS:aE prog 56 32 [⟨6,true,none⟩] cg=true:=by kernel_rfl
theorem dW{lq nR}{s:ab}{Q:List AV->ab->Prop}:ok (ar lq nR) (fun r=>Q [.bool r] s)->FN prog 56 [sF 6 lq,sF 6 nR,.fn 57 [] []] s Q:=by
 intro h
 refine FO dS rfl rfl ?_
 revert h
 rw[cg,ar]
 repeat'(first
  |(with_reducible first|exact cW|refine bK ?_ ?_|refine de ?_|refine ak (fun _(h:ke (ix lq t2) (ix nR t2)=some _)=>IY h) (fun r4=>?_))
  |((with_reducible refine bF (fun(t2:Int)=>⟨[(1,sF 6 nR),(2,.fn 57 [] []),(15,sF 6 lq),(16,.int .i64 (lq.length:Int)),(17,.int .i64 t2)],[],s⟩) ?_ ?_);(first|exact rfl|simp -implicitDefEqProofs only[go_sem,seval,SN]);rintro J t2)
  |((with_reducible refine fh (fun(_:Unit)=>⟨[],[],s⟩) (fun J=>?_) ?_);rotate_left;rintro _)
  |simp -implicitDefEqProofs only[go_sem,seval,SN])
theorem dV{lq nR}{s:ab}{r:Bool}(h:ar lq nR=some r):FE prog 56 [sF 6 lq,sF 6 nR,.fn 57 [] []] s [.bool r] s:=dW ⟨r,h,rfl,rfl⟩
def oZ(a_0:dP)(b_1:dP):Option (Bool):=
 aW (ar a_0.ae b_1.ae) fun r1=>
 aW (l8 r1 false (il a_0.an b_1.an)) fun r2=>
 some (r1&&r2)
def AW:IC:=
 (af [i1 2 (.dc 5 (.t 0)),i1 3 (.dc 5 (.t 1)),c6 4 (.bool false)] [2,3]
 (.seq (.bN (some 11) [fa 5 0 2,ld 6 1 5,fa 7 0 3,ld 8 1 7,i1 9 (.call 56 [(.t 6),(.t 8),(.c (.fn 57 [] []))]),mv 10 9,fg 11 10 true 1 2,dq 12 10 true (.load 4 true (.t 11)),fg 13 10 true 1 3,dq 14 10 true (.load 4 true (.t 13)),qd2 15 10 true 58 12 14,pf 16 10 15,mv 4 16] [4])
 .ret))
theorem Mv:aE prog 25 17 [⟨4,true,none⟩] AW=true:=by kernel_rfl
theorem NJ{a_0 b_1}{s:ab}{Q:List AV->ab->Prop}:ok (oZ a_0 b_1) (fun r=>Q [.bool r] s)->FN prog 25 [.agg [sF 6 a_0.ae,.int .i64 a_0.an.Kind,.int .i64 a_0.an.N,.str a_0.an.S.b,sF 4 a_0.an.L],.agg [sF 6 b_1.ae,.int .i64 b_1.an.Kind,.int .i64 b_1.an.N,.str b_1.an.S.b,sF 4 b_1.an.L]] s Q:=by
 intro h
 refine FO Mv rfl rfl ?_
 revert h
 rw[AW,oZ]
 repeat'(first
  |(with_reducible first|refine b6 (fun _(h:ar a_0.ae b_1.ae=some _)=>dV h) (fun _=>rfl) (fun r1=>?_)|refine fC rfl (fun _(h:il a_0.an b_1.an=some _)=>yC h) (fun _=>rfl) (fun r2=>?_))
  |simp -implicitDefEqProofs only[go_sem,seval])
theorem Bu{a_0 b_1}{s:ab}{r:Bool}(h:oZ a_0 b_1=some r):FE prog 25 [.agg [sF 6 a_0.ae,.int .i64 a_0.an.Kind,.int .i64 a_0.an.N,.str a_0.an.S.b,sF 4 a_0.an.L],.agg [sF 6 b_1.ae,.int .i64 b_1.an.Kind,.int .i64 b_1.an.N,.str b_1.an.S.b,sF 4 b_1.an.L]] s [.bool r] s:=NJ ⟨r,h,rfl,rfl⟩
def cm:Nat->aa->aa->Option (Int)
 |0,_,_=>none
 |fuel+1,a_0,b_1=>
  if(decide (a_0.Kind<b_1.Kind))||((a_0.Kind==b_1.Kind)&&((decide (a_0.N<b_1.N))||((a_0.N==b_1.N)&&(Op.bytesLess a_0.S.b b_1.S.b))))then
   some (-1)
  else
   if((a_0.Kind !=b_1.Kind)||(a_0.N !=b_1.N))||(!(a_0.S.b==b_1.S.b))then
    some 1
   else
    yp (
     jG (
      iter (fun(k4:Int)=>
       if(decide (k4<(a_0.L.length:Int)))&&(decide (k4<(b_1.L.length:Int)))then
        aG (0<=k4/\k4<a_0.L.length)<|
        aG (0<=k4/\k4<b_1.L.length)<|
        aW (cm fuel (ix a_0.L k4) (ix b_1.L k4)) fun r8=>
        if r8 !=0 then
         some (.inr (.inr r8))
        else
         some (.inl (bj (k4+1)))
       else
        some (.inr (.inl ()))) 0) (fun(_:Unit)=>
      some (.inl ()))
     (fun(t7:Int)=>some (.inr t7))) (fun(_:Unit)=>
     if decide ((a_0.L.length:Int)<(b_1.L.length:Int))then
      some (-1)
     else
      if decide ((a_0.L.length:Int)>(b_1.L.length:Int))then
       some 1
      else
       some 0)
    (fun(t3:Int)=>some t3)
def rL:IC:=
 (af [i1 2 (.dc 4 (.t 0)),i1 3 (.dc 4 (.t 1)),mi 4 0] [2,3]
 (.seq (.block 0 (af [fa 8 0 2,ld 9 1 8,fa 10 0 3,ld 11 1 10,bt 12 .lss 9 11,mv 13 12,fg 14 13 false 0 2,lg 15 13 false 1 14,fg 16 13 false 0 3,lg 17 13 false 1 16,sY 18 13 false .eql 15 17,dh 19 18 13 false,fg 20 19 true 1 2,lg 21 19 true 1 20,fg 22 19 true 1 3,lg 23 19 true 1 22,sY 24 19 true .lss 21 23,dh 25 24 19 true,fg 26 25 false 1 2,lg 27 25 false 1 26,fg 28 25 false 1 3,lg 29 25 false 1 28,sY 30 25 false .eql 27 29,dh 31 30 25 false,fg 32 31 true 2 2,lg 33 31 true 1 32,fg 34 31 true 2 3,lg 35 31 true 1 34,sY 36 31 true .lss 33 35,dq 37 25 false (.pick (.t 31) (.t 36) (.c (.bool false))),dq 38 19 true (.pick (.t 25) (.c (.bool true)) (.t 37)),dq 39 13 false (.pick (.t 19) (.t 38) (.c (.bool false))),po 40 13 39,mv 7 40] [2,3,7]
 (.cond (.t 7) (af [mi 4 (-1)] [4]
 .ret)
 (af [fa 42 0 2,ld 43 1 42,fa 44 0 3,ld 45 1 44,bt 46 .neq 43 45,mv 47 46,fg 48 47 false 1 2,lg 49 47 false 1 48,fg 50 47 false 1 3,lg 51 47 false 1 50,sY 52 47 false .neq 49 51,po 53 47 52,mv 54 53,fg 55 54 false 2 2,lg 56 54 false 1 55,fg 57 54 false 2 3,lg 58 54 false 1 57,sY 59 54 false .neq 56 58,po 60 54 59,mv 41 60] [2,3,41]
 (.cond (.t 41) (af [mi 4 1] [4]
 .ret)
 .skip)))))
 (.join [(2,false),(3,false)] (af [mi 5 0] [2,3,5]
 (.block 1 (.loop [(2,false),(3,false),(5,false)] (.seq (af [mv 61 5,fa 62 3 2,ld 63 1 62,le 64 0 63,bt 65 .lss 61 64,mv 66 65,dh 67 5 66 true,fg 68 66 true 3 3,lg 69 66 true 1 68,dq 70 66 true (.len 0 (.t 69)),sY 71 66 true .lss 67 70,pf 72 66 71] [2,3,5,72]
 (.cond (.t 72) .skip
 (.exit 1)))
 (.seq (.block 2 (.seq (.bN (some 12) [fa 75 3 2,ld 76 1 75,mv 77 5,ia 78 qT 76 77,lm 79 4 78,fa 80 3 3,ld 81 1 80,mv 82 5,ia 83 qT 81 82,lm 84 4 83,c2 85 41 79 84,mv 6 85] [2,3,5,6])
 (af [mv 86 6,bn 87 .neq 86 0] [2,3,5,6,87]
 (.cond (.t 87) (af [mv 88 6,mv 4 88] [4]
 .ret)
 .skip))))
 (.bN none [mv 73 5,bn 74 .add 73 1,mv 5 74] [2,3,5]))))))
 (.seq (af [fa 89 3 2,ld 90 1 89,le 91 0 90,fa 92 3 3,ld 93 1 92,le 94 0 93,bt 95 .lss 91 94] [2,3,95]
 (.cond (.t 95) (af [mi 4 (-1)] [4]
 .ret)
 .skip))
 (.seq (af [fa 96 3 2,ld 97 1 96,le 98 0 97,fa 99 3 3,ld 100 1 99,le 101 0 100,bt 102 .gtr 98 101] [102]
 (.cond (.t 102) (af [mi 4 1] [4]
 .ret)
 .skip))
 (af [mi 4 0] [4]
 .ret))))))
theorem B8:aE prog 41 103 [⟨4,true,none⟩] rL=true:=by kernel_rfl
theorem CD{fuel:Nat}:∀{a_0:aa}{b_1:aa}{s:ab}{Q:List AV->ab->Prop},ok (cm fuel a_0 b_1) (fun r=>Q [.int .i64 r] s)->FN prog 41 [oV a_0,oV b_1] s Q:=by
 induction fuel with
 |zero=>intros;rename_i h;rw[cm]at h;exact absurd h (by rw[ok_none];exact fun h=>h)
 |succ fuel ih=>
 have L6:∀{a_0:aa}{b_1:aa}{s:ab}{r:Int},cm fuel a_0 b_1=some r->FE prog 41 [oV a_0,oV b_1] s [.int .i64 r] s:=fun h=>ih ⟨_,h,rfl,rfl⟩
 intro a_0 b_1 s Q
 intro h
 refine FO B8 rfl rfl ?_
 revert h
 rw[rL,cm]
 repeat'(first
  |(with_reducible first|exact cW|refine bK ?_ ?_|refine de ?_|refine b6 (fun _(h:cm fuel (ix a_0.L k4) (ix b_1.L k4)=some _)=>L6 h) (fun _=>rfl) (fun r8=>?_))
  |((with_reducible refine bF (fun(k4:Int)=>⟨[(2,.loc [.int .i64 a_0.Kind,.int .i64 a_0.N,.str a_0.S.b,sF 4 a_0.L]),(3,.loc [.int .i64 b_1.Kind,.int .i64 b_1.N,.str b_1.S.b,sF 4 b_1.L]),(5,.int .i64 k4)],[],s⟩) ?_ ?_);(first|exact rfl|simp -implicitDefEqProofs only[go_sem,seval]);rintro J k4)
  |((with_reducible refine fh (fun(_:Unit)=>⟨[(2,.loc [.int .i64 a_0.Kind,.int .i64 a_0.N,.str a_0.S.b,sF 4 a_0.L]),(3,.loc [.int .i64 b_1.Kind,.int .i64 b_1.N,.str b_1.S.b,sF 4 b_1.L])],[],s⟩) (fun J=>?_) ?_);rotate_left;rintro _)
  |simp -implicitDefEqProofs only[go_sem,seval])
theorem CC{fuel:Nat}{a_0 b_1}{s:ab}{r:Int}(h:cm fuel a_0 b_1=some r):FE prog 41 [oV a_0,oV b_1] s [.int .i64 r] s:=CD ⟨r,h,rfl,rfl⟩
def ij(a_0:aa)(b_1:aa):Option (Bool):=
 aW (cm lf a_0 b_1) fun r1=>
 some (r1==0)
def x6:IC:=
 (af [i1 2 (.dc 4 (.t 0)),i1 3 (.dc 4 (.t 1)),c6 4 (.bool false)] [2,3]
 (af [lm 5 4 2,lm 6 4 3,c2 7 41 5 6,bn 8 .eql 7 0,mv 4 8] [4]
 .ret))
theorem Jh:aE prog 14 9 [⟨4,true,none⟩] x6=true:=by kernel_rfl
theorem JM{a_0 b_1}{s:ab}{Q:List AV->ab->Prop}:ok (ij a_0 b_1) (fun r=>Q [.bool r] s)->FN prog 14 [oV a_0,oV b_1] s Q:=by
 intro h
 refine FO Jh rfl rfl ?_
 revert h
 rw[x6,ij]
 repeat'(first
  |with_reducible refine ak (fun _(h:cm lf a_0 b_1=some _)=>CC h) (fun r1=>?_)
  |simp -implicitDefEqProofs only[go_sem,seval])
theorem yy{a_0 b_1}{s:ab}{r:Bool}(h:ij a_0 b_1=some r):FE prog 14 [oV a_0,oV b_1] s [.bool r] s:=JM ⟨r,h,rfl,rfl⟩
def kD(a_0:ag)(b_1:ag):Option (Bool):=
 aW (ij a_0.V b_1.V) fun r1=>
 some ((r1&&((a_0.Stream==b_1.Stream)!=false))&&(a_0.Data.b==b_1.Data.b))
def yd:IC:=
 (af [i1 2 (.dc 6 (.t 0)),i1 3 (.dc 6 (.t 1)),c6 4 (.bool false)] [2,3]
 (af [fa 5 0 2,lm 6 4 5,fa 7 0 3,lm 8 4 7,c2 9 14 6 8,mv 10 9,fg 11 10 true 4 2,lg 12 10 true 1 11,fg 13 10 true 4 3,lg 14 10 true 1 13,dq 15 10 true (.U4 false (.t 12) (.t 14)),pf 16 10 15,mv 17 16,fg 18 17 true 5 2,lg 19 17 true 1 18,fg 20 17 true 5 3,lg 21 17 true 1 20,sY 22 17 true .eql 19 21,pf 23 17 22,mv 4 23] [4]
 .ret))
theorem Jm:aE prog 110 24 [⟨4,true,none⟩] yd=true:=by kernel_rfl
theorem JV{a_0 b_1}{s:ab}{Q:List AV->ab->Prop}:ok (kD a_0 b_1) (fun r=>Q [.bool r] s)->FN prog 110 [.agg [.int .i64 a_0.V.Kind,.int .i64 a_0.V.N,.str a_0.V.S.b,sF 4 a_0.V.L,.bool a_0.Stream,.str a_0.Data.b],.agg [.int .i64 b_1.V.Kind,.int .i64 b_1.V.N,.str b_1.V.S.b,sF 4 b_1.V.L,.bool b_1.Stream,.str b_1.Data.b]] s Q:=by
 intro h
 refine FO Jm rfl rfl ?_
 revert h
 rw[yd,kD]
 repeat'(first
  |with_reducible refine ak (fun _(h:ij a_0.V b_1.V=some _)=>yy h) (fun r1=>?_)
  |simp -implicitDefEqProofs only[go_sem,seval])
theorem JU{a_0 b_1}{s:ab}{r:Bool}(h:kD a_0 b_1=some r):FE prog 110 [.agg [.int .i64 a_0.V.Kind,.int .i64 a_0.V.N,.str a_0.V.S.b,sF 4 a_0.V.L,.bool a_0.Stream,.str a_0.Data.b],.agg [.int .i64 b_1.V.Kind,.int .i64 b_1.V.N,.str b_1.V.S.b,sF 4 b_1.V.L,.bool b_1.Stream,.str b_1.Data.b]] s [.bool r] s:=JV ⟨r,h,rfl,rfl⟩
def kE(a_0:(List ag))(b_1:(List ag)):Option (Bool):=
 if(a_0.length:Int)!=(b_1.length:Int)then
  some false
 else
  yp (
   jG (
    iter (fun(k2:Int)=>
     if decide (k2<(a_0.length:Int))then
      aG (0<=k2/\k2<a_0.length)<|
      aG (0<=k2/\k2<b_1.length)<|
      aW (kD (ix a_0 k2) (ix b_1 k2)) fun r4=>
      if !r4 then
       some (.inr (.inr false))
      else
       some (.inl (bj (k2+1)))
     else
      some (.inr (.inl ()))) 0) (fun(_:Unit)=>
    some (.inl ()))
   (fun(t3:Bool)=>some (.inr t3))) (fun(_:Unit)=>
   some true)
  (fun(t1:Bool)=>some t1)
def ye:IC:=
 (af [c6 4 (.bool false)] [0,1]
 (.seq (af [mv 6 0,le 7 0 6,mv 8 1,le 9 0 8,bt 10 .neq 7 9] [0,1,10]
 (.cond (.t 10) (af [c6 4 (.bool false)] [4]
 .ret)
 .skip))
 (.join [] (af [mi 5 0] [0,1,5]
 (.block 0 (.loop [(0,true),(1,true),(5,false)] (.seq (af [mv 11 5,mv 12 0,le 13 0 12,bt 14 .lss 11 13] [0,1,5,14]
 (.cond (.t 14) .skip
 (.exit 0)))
 (.seq (.block 1 (.seq (.bN (some 10) [mv 17 0,mv 18 5,ia 19 Qu 17 18,lm 20 6 19,mv 21 1,mv 22 5,ia 23 Qu 21 22,lm 24 6 23,c2 25 110 20 24,no 26 25] [0,1,5,26])
 (.cond (.t 26) (af [c6 4 (.bool false)] [4]
 .ret)
 .skip)))
 (.bN none [mv 15 5,bn 16 .add 15 1,mv 5 16] [0,1,5]))))))
 (af [c6 4 (.bool true)] [4]
 .ret))))
theorem Jn:aE prog 51 27 [⟨4,true,none⟩] ye=true:=by kernel_rfl
theorem JX{a_0 b_1}{s:ab}{Q:List AV->ab->Prop}:ok (kE a_0 b_1) (fun r=>Q [.bool r] s)->FN prog 51 [sF 6 a_0,sF 6 b_1] s Q:=by
 intro h
 refine FO Jn rfl rfl ?_
 revert h
 rw[ye,kE]
 repeat'(first
  |(with_reducible first|exact cW|refine bK ?_ ?_|refine de ?_|refine b6 (fun _(h:kD (ix a_0 k2) (ix b_1 k2)=some _)=>JU h) (fun _=>rfl) (fun r4=>?_))
  |((with_reducible refine bF (fun(k2:Int)=>⟨[(0,sF 6 a_0),(1,sF 6 b_1),(5,.int .i64 k2)],[],s⟩) ?_ ?_);(first|exact rfl|simp -implicitDefEqProofs only[go_sem,seval]);rintro J k2)
  |((with_reducible refine fh (fun(_:Unit)=>⟨[],[],s⟩) (fun J=>?_) ?_);rotate_left;rintro _)
  |simp -implicitDefEqProofs only[go_sem,seval])
theorem JW{a_0 b_1}{s:ab}{r:Bool}(h:kE a_0 b_1=some r):FE prog 51 [sF 6 a_0,sF 6 b_1] s [.bool r] s:=JX ⟨r,h,rfl,rfl⟩
def mK(a_0:dP)(b_1:dP):Option (Bool):=
 aW (kE a_0.ae b_1.ae) fun r1=>
 aW (l8 r1 false (ij a_0.an b_1.an)) fun r2=>
 some (r1&&r2)
def yf:IC:=
 (af [i1 2 (.dc 5 (.t 0)),i1 3 (.dc 5 (.t 1)),c6 4 (.bool false)] [2,3]
 (.seq (.bN (some 11) [fa 5 0 2,ld 6 1 5,fa 7 0 3,ld 8 1 7,c2 9 51 6 8,mv 10 9,fg 11 10 true 1 2,dq 12 10 true (.load 4 true (.t 11)),fg 13 10 true 1 3,dq 14 10 true (.load 4 true (.t 13)),qd2 15 10 true 14 12 14,pf 16 10 15,mv 4 16] [4])
 .ret))
theorem Jo:aE prog 21 17 [⟨4,true,none⟩] yf=true:=by kernel_rfl
theorem JY{a_0 b_1}{s:ab}{Q:List AV->ab->Prop}:ok (mK a_0 b_1) (fun r=>Q [.bool r] s)->FN prog 21 [.agg [sF 6 a_0.ae,.int .i64 a_0.an.Kind,.int .i64 a_0.an.N,.str a_0.an.S.b,sF 4 a_0.an.L],.agg [sF 6 b_1.ae,.int .i64 b_1.an.Kind,.int .i64 b_1.an.N,.str b_1.an.S.b,sF 4 b_1.an.L]] s Q:=by
 intro h
 refine FO Jo rfl rfl ?_
 revert h
 rw[yf,mK]
 repeat'(first
  |(with_reducible first|refine b6 (fun _(h:kE a_0.ae b_1.ae=some _)=>JW h) (fun _=>rfl) (fun r1=>?_)|refine fC rfl (fun _(h:ij a_0.an b_1.an=some _)=>yy h) (fun _=>rfl) (fun r2=>?_))
  |simp -implicitDefEqProofs only[go_sem,seval])
theorem yA{a_0 b_1}{s:ab}{r:Bool}(h:mK a_0 b_1=some r):FE prog 21 [.agg [sF 6 a_0.ae,.int .i64 a_0.an.Kind,.int .i64 a_0.an.N,.str a_0.an.S.b,sF 4 a_0.an.L],.agg [sF 6 b_1.ae,.int .i64 b_1.an.Kind,.int .i64 b_1.an.N,.str b_1.an.S.b,sF 4 b_1.an.L]] s [.bool r] s:=JY ⟨r,h,rfl,rfl⟩
end Go.AB
end
