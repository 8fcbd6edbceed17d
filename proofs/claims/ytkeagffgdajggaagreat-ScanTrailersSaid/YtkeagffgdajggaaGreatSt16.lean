/- A part. -/
import Derived.Test.YtkeagffgdajggaaGreatSt15
set_option linter.unusedSimpArgs false
set_option linter.unusedVariables false
section
set_option maxRecDepth 4000
namespace Go.AB
open Go
open Go.Proofs.Tryz (prog)
end Go.AB
end
section
set_option maxRecDepth 4000
namespace Go.AB
open Go
open Go.Proofs.Tryz (prog)
attribute[-go_sem] cV dB cg cU
@[go_sem]theorem Qa(l:List aa):pad [.int .i64 0,.int .i64 0,.str [],.sl false 4 0 []] (views (AB.sub (flat l) 0 4))=[.int .i64 ((ix l 0).Kind),.int .i64 ((ix l 0).N),.str ((ix l 0).S).b,.sl false 4 ((ix l 0).L).length (flat ((ix l 0).L))]:=D7 l 0
def dw(x_0:aC):Option (Bool):=some (!(x_0.b==x_0.b))
def mI:IC:=
 (ag [cY 2 (.bool false)] [0]
 (ag [mv 3 0,mv 4 0,bt 5 .neq 3 4,mv 2 5] [2]
 .ret))
theorem u5:aY prog 264 6 [⟨2,true,none⟩] mI=true:=by kernel_rfl
theorem uL{x_0}{s:ab}{Q:List AV->ab->Prop}:ok (dw x_0) (fun r=>Q [.bool r] s)->FN prog 264 [.str x_0.b] s Q:=by
 intro h
 refine FO u5 rfl rfl ?_
 revert h
 rw[mI,dw]
 repeat'(first
  |simp -implicitDefEqProofs only[go_sem,seval])
theorem mC{x_0}{s:ab}{r:Bool}(h:dw x_0=some r):FE prog 264 [.str x_0.b] s [.bool r] s:=uL ⟨r,h,rfl,rfl⟩
def dS(x_0:aC)(y_1:aC):Option (Int):=
 ba (dw x_0) fun r1=>
 ba (dw y_1) fun r2=>
 if r1 then
  if r2 then
   some 0
  else
   some (-1)
 else
  if r2 then
   some 1
  else
   if Op.bytesLess x_0.b y_1.b then
    some (-1)
   else
    if !((Op.bytesLess x_0.b y_1.b)||(x_0.b==y_1.b))then
     some 1
    else
     some 0
def kZ:IC:=
 (ag [mi 4 0] [0,1]
 (ag [mv 7 0,c1 8 264 7,mv 5 8] [0,1,5]
 (ag [mv 9 1,c1 10 264 9,mv 6 10] [0,1,5,6]
 (.seq (ag [mv 11 5] [0,1,6,11]
 (.cond (.t 11) (.seq (ag [mv 12 6] [12]
 (.cond (.t 12) (ag [mi 4 0] [4]
 .ret)
 .skip))
 (ag [mi 4 (-1)] [4]
 .ret))
 .skip))
 (.seq (ag [mv 13 6] [0,1,13]
 (.cond (.t 13) (ag [mi 4 1] [4]
 .ret)
 .skip))
 (.seq (ag [mv 14 0,mv 15 1,bt 16 .lss 14 15] [0,1,16]
 (.cond (.t 16) (ag [mi 4 (-1)] [4]
 .ret)
 .skip))
 (.seq (ag [mv 17 0,mv 18 1,bt 19 .gtr 17 18] [19]
 (.cond (.t 19) (ag [mi 4 1] [4]
 .ret)
 .skip))
 (ag [mi 4 0] [4]
 .ret))))))))
theorem rR:aY prog 225 20 [⟨4,true,none⟩] kZ=true:=by kernel_rfl
theorem ri{x_0 y_1}{s:ab}{Q:List AV->ab->Prop}:ok (dS x_0 y_1) (fun r=>Q [.int .i64 r] s)->FN prog 225 [.str x_0.b,.str y_1.b] s Q:=by
 intro h
 refine FO rR rfl rfl ?_
 revert h
 rw[kZ,dS]
 repeat'(first
  |(with_reducible first|refine ax (fun _(h:dw x_0=some _)=>mC h) (fun r1=>?_)|refine ax (fun _(h:dw y_1=some _)=>mC h) (fun r2=>?_))
  |simp -implicitDefEqProofs only[go_sem,seval])
theorem rh{x_0 y_1}{s:ab}{r:Int}(h:dS x_0 y_1=some r):FE prog 225 [.str x_0.b,.str y_1.b] s [.int .i64 r] s:=ri ⟨r,h,rfl,rfl⟩
def eK(a_0:(List aa))(b_1:(List aa)):Option (Int):=
 aH (0<=(0:Int)/\(0:Int)<a_0.length)<|
 aH (0<=(0:Int)/\(0:Int)<b_1.length)<|
 ba (dS ((ix a_0 0).S) ((ix b_1 0).S)) fun r1=>
 some r1
def oP:IC:=
 (ag [mi 4 0] [0,1]
 (.seq (.bP (some 10) [mv 5 0,i1 6 (.indexAddr CS (.t 5) (.c (.int .i64 0))),fa 7 2 6,ld 8 1 7,mv 9 1,i1 10 (.indexAddr CS (.t 9) (.c (.int .i64 0))),fa 11 2 10,ld 12 1 11,c2 13 225 8 12,mv 4 13] [4])
 .ret))
theorem ye:aY prog 224 14 [⟨4,true,none⟩] oP=true:=by kernel_rfl
theorem yz{a_0 b_1}{s:ab}{Q:List AV->ab->Prop}:ok (eK a_0 b_1) (fun r=>Q [.int .i64 r] s)->FN prog 224 [.sl false 4 a_0.length (flat a_0),.sl false 4 b_1.length (flat b_1)] s Q:=by
 intro h
 refine FO ye rfl rfl ?_
 revert h
 rw[oP,eK]
 repeat'(first
  |(with_reducible first|exact dh|refine b9 ?_ ?_|refine dF (fun _(h:dS ((ix a_0 0).S) ((ix b_1 0).S)=some _)=>rh h) (fun _=>rfl) (fun r1=>?_))
  |simp -implicitDefEqProofs only[go_sem,seval])
theorem il{a_0 b_1}{s:ab}{r:Int}(h:eK a_0 b_1=some r):FE prog 224 [.sl false 4 a_0.length (flat a_0),.sl false 4 b_1.length (flat b_1)] s [.int .i64 r] s:=yz ⟨r,h,rfl,rfl⟩
end Go.AB
end
section
set_option maxRecDepth 4000
namespace Go.AB
open Go
open Go.Proofs.Tryz (prog)
attribute[-go_sem] Nat.add_zero tz du cV dB cg cU
def uT:IC:=
 (ag [mv 10 1,bn 11 .add 10 1,mv 8 11] [0,1,2,3,8]
 (.block 0 (.loop [(0,false),(1,false),(2,false),(3,false),(8,false)] (.seq (ag [mv 12 8,mv 13 2,bt 14 .lss 12 13] [0,1,2,3,8,14]
 (.cond (.t 14) .skip
 (.exit 0)))
 (.seq (.block 1 (ag [mv 17 8,mv 9 17] [0,1,2,3,8,9]
 (.block 2 (.loop [(0,false),(1,false),(2,false),(3,false),(8,false),(9,false)] (.seq (.seq (.bP (some 17) [mv 18 9,mv 19 1,bt 20 .gtr 18 19,mv 21 20,bK 22 3 21 true,bK 23 0 21 true,bK 24 9 21 true,b6 25 21 true (.indexAddr [.sl false 4 0 []] (.t 23) (.t 24)),b6 26 21 true (.bM [.sl false 4 0 []] false (.t 25)),bK 27 0 21 true,bK 28 9 21 true,im 29 21 true .sub 28 1,b6 30 21 true (.indexAddr [.sl false 4 0 []] (.t 27) (.t 29)),b6 31 21 true (.bM [.sl false 4 0 []] false (.t 30)),b6 32 21 true (.dj (.t 22) [(.t 26),(.t 31)]),im 33 21 true .lss 32 0,pf 34 21 33] [0,1,2,3,8,9,34])
 (.cond (.t 34) .skip
 (.exit 2)))
 (.seq (.block 3 (.Az [] [(0,0,mv 37 0),(0,1,mv 38 9),(1,2,mv 39 0),(1,3,mv 40 9),(1,4,bn 41 .sub 40 1),(0,5,mv 42 0),(0,6,mv 43 9),(0,7,bn 44 .sub 43 1),(0,8,ia 45 [.sl false 4 0 []] 42 44),(0,9,ld 46 1 45),(0,10,mv 47 0),(0,11,mv 48 9),(0,12,ia 49 [.sl false 4 0 []] 47 48),(0,13,ld 50 1 49),(0,14,ia 51 [.sl false 4 0 []] 37 38),(2,15,st 1 51 46),(0,16,ia 52 [.sl false 4 0 []] 39 41),(2,17,st 1 52 50)] [0,1,2,3,8,9]))
 (.bP none [mv 35 9,bn 36 .sub 35 1,mv 9 36] [0,1,2,3,8,9])))))))
 (.bP none [mv 15 8,bn 16 .add 15 1,mv 8 16] [0,1,2,3,8]))))))
theorem B5:aY prog 297 53 [] uT=true:=by kernel_rfl
abbrev VL:=List aa
def wg(a:Int)(q:List VL×Int):Option ((List VL×Int)⊕List VL):=
 aH (0<=q.2/\q.2<q.1.length/\q.2<2^62)<|bif decide (q.2>a)then
  aH (1<=q.2)<|ba (eK (ix q.1 q.2) (ix q.1 (q.2 -1))) fun c=>
  bif decide (c<0)then some (.inl ((q.1.set q.2.toNat (ix q.1 (q.2 -1))).set (q.2 -1).toNat (ix q.1 q.2),q.2 -1))else some (.inr q.1)
 else some (.inr q.1)
def insOuter(a b:Int)(q:List VL×Int):Option ((List VL×Int)⊕List VL):=bif decide (q.2<b)then aH (0<=q.2/\q.2+1<2^62)<|ba (iter (wg a) (q.1,q.2)) fun l=>some (.inl (l,q.2+1))else some (.inr q.1)
def RW(l:List VL)(a b:Int):Option (List VL):=iter (insOuter a b) (l,a+1)
theorem na(l:List VL)(sp:List AV){j:Int}(h0:0<=j)(h:j<l.length):j.toNat*1+1<=(flat l++sp).length/\views (AB.sub (flat l++sp) (j.toNat*1) 1)=[.sl false 4 (ix l j).length (flat (ix l j))]:=by
 have hj:j.toNat<l.length:=by omega
 have hs:=nI l sp 1 j.toNat 1 rfl (by omega)
 refine⟨?_,?_⟩
 ·rw[List.length_append,aE]
  have:aR.w VL=1:=rfl
  rw[this];omega
 ·rw[Nat.one_mul]at hs
  rw[hs,List.drop_eq_getElem_cons hj]
  have:ix l j=l[j.toNat]:=by unfold ix;simp[hj]
  rw[this]
  rfl
theorem JM(l:List VL)(sp:List AV)(x:VL){j:Int}(h0:0<=j)(h:j<l.length):setAt (flat l++sp) (j.toNat*1) [.sl false 4 x.length (flat x)]=flat (l.set j.toNat x)++sp:=by
 have hj:j.toNat<l.length:=by omega
 have hs:=p7 l [x] sp 1 j.toNat rfl (by simp;omega)
 have e:flat [x]=[.sl false 4 x.length (flat x)]:=rfl
 rw[e]at hs
 rw[hs,List.set_eq_take_append_cons_drop,if_pos hj]
 simp
theorem VN{s:ab}{rb cap:Nat}{sp:List AV}{l:List VL}{a b:Int}{Q:List AV->ab->Prop}(hs:s rb=none)(ha:0<=a/\a+1<2^62)(hr:l.length<=room)
 (hm:ok (RW l a b) fun l'=>Q [] (s.set rb (.cells (flat l'++sp)))):FN prog 297 [.arr rb 0 l.length cap,.int .i64 a,.int .i64 b,.fn 224 [] []] (s.set rb (.cells (flat l++sp))) Q:=by
 unfold RW at hm
 refine FO B5 rfl rfl ?_
 rw[uT]
 simp -implicitDefEqProofs only[go_sem,seval]
 rw[au (by omega) (by omega)]
 refine ch (fun(q:List VL×Int)=>(⟨[(0,.arr rb 0 q.1.length cap),(1,.int .i64 a),(2,.int .i64 b),(3,.fn 224 [] []),(8,.int .i64 q.2)],[],s.set rb (.cells (flat q.1++sp))⟩:St)) rfl ?_ hm
 intro J q hb
 unfold insOuter at hb
 cases hlt:decide (q.2<b)with
 |false=>
  rw[hlt,cond_false,aP]at hb
  simp -implicitDefEqProofs only[go_sem,seval,hlt,Bool.true_eq_false,Bool.false_eq_true,false_implies,true_implies,true_and,and_true]
  exact hb
 |true=>
  rw[hlt,cond_true,fM,eF]at hb
  obtain⟨hb0,hb⟩:=hb
  simp -implicitDefEqProofs only[go_sem,seval,hlt,Bool.true_eq_false,Bool.false_eq_true,false_implies,true_implies,true_and,and_true]
  refine ch (fun(q':List VL×Int)=>(⟨[(0,.arr rb 0 q'.1.length cap),(1,.int .i64 a),(2,.int .i64 b),(3,.fn 224 [] []),(8,.int .i64 q.2),(9,.int .i64 q'.2)],[],s.set rb (.cells (flat q'.1++sp))⟩:St)) rfl ?_ hb
  intro J2 q' hb2
  unfold wg at hb2
  rw[fM]at hb2
  obtain⟨hb3,hb2⟩:=hb2
  have hw:ao (q'.2 -1)=q'.2 -1:=au (by omega) (by omega)
  obtain⟨r1,r2⟩:=na q'.1 sp (j:=q'.2) (by omega) hb3.2.1
  cases hgt:decide (q'.2>a)with
  |false=>
   rw[hgt,cond_false,aP]at hb2
   obtain⟨r3,r4⟩:=na q'.1 sp (j:=((q'.2 -1).toNat:Int)) (by omega) (by omega)
   rw[Int.toNat_natCast]at r3 r4
   generalize hcs:flat q'.1++sp=cs
   rw[hcs]at r1 r2 r3 r4
   have d1:=decide_eq_true r1
   have d3:=decide_eq_true r3
   simp -implicitDefEqProofs only[go_sem,seval,hgt,hw,r2,r4,d1,d3,Bool.true_eq_false,Bool.false_eq_true,false_implies,true_implies,true_and,and_true]
   refine⟨[.int .i64 0],rfl,?_⟩
   simp -implicitDefEqProofs only[go_sem,seval,Bool.true_eq_false,Bool.false_eq_true,false_implies,true_implies,true_and,and_true]
   subst hcs
   rw[au (by omega) (by omega)]
   simp only[aP]at hb2
   exact hb2
  |true=>
   rw[hgt,cond_true,fM,eF]at hb2
   obtain⟨hb4,c,hc,hb2⟩:=hb2
   obtain⟨r3,r4⟩:=na q'.1 sp (j:=q'.2 -1) (by omega) (by omega)
   generalize hcs:flat q'.1++sp=cs
   rw[hcs]at r1 r2 r3 r4
   have d1:=decide_eq_true r1
   have d3:=decide_eq_true r3
   simp -implicitDefEqProofs only[go_sem,seval,hgt,hw,r2,r4,d1,d3,Bool.true_eq_false,Bool.false_eq_true,false_implies,true_implies,true_and,and_true]
   refine⟨⟨hb3.1,hb3.2.1⟩,r1,⟨by omega,by omega⟩,r3,[.int .i64 c],rfl,⟨224,[.sl false 4 (ix q'.1 q'.2).length (flat (ix q'.1 q'.2)),.sl false 4 (ix q'.1 (q'.2 -1)).length (flat (ix q'.1 (q'.2 -1)))],⟨[],[],_,rfl,rfl,rfl⟩,by kernel_rfl,il hc⟩,?_⟩
   ·simp -implicitDefEqProofs only[go_sem,seval,hw,r2,r4,d1,d3,Bool.true_eq_false,Bool.false_eq_true,false_implies,true_implies,true_and,and_true]
    refine⟨fun hx=>?_,fun hx=>?_⟩
    ·rw[hx,cond_true,aP]at hb2
     subst hcs
     have hl:(q'.1.set q'.2.toNat (ix q'.1 (q'.2 -1))).length=q'.1.length:=List.length_set ..
     rw[JM q'.1 sp (ix q'.1 (q'.2 -1)) hb3.1 hb3.2.1,JM _ sp (ix q'.1 q'.2) (j:=q'.2 -1) (by omega) (by rw[hl];omega)]
     obtain⟨r5,_⟩:=na (q'.1.set q'.2.toNat (ix q'.1 (q'.2 -1))) sp (j:=q'.2 -1) (by omega) (by rw[hl];omega)
     have hl2:((q'.1.set q'.2.toNat (ix q'.1 (q'.2 -1))).set (q'.2 -1).toNat (ix q'.1 q'.2)).length=q'.1.length:=by rw[List.length_set,List.length_set]
     refine⟨⟨by omega,by omega⟩,⟨hb3.1,hb3.2.1⟩,⟨hb3.1,hb3.2.1⟩,r1,⟨by omega,by omega⟩,r5,?_⟩
     have hb5:=hb2
     simp only[iY,hl2]at hb5
     exact hb5
    ·rw[hx,cond_false,aP]at hb2
     subst hcs
     rw[au (by omega) (by omega)]
     simp only[sQ,iY,aP]at hb2
     exact hb2
def IZ:IC:=
 (ag [mi 10 0] [0,1,2,3,10]
 (.block 0 (.loop [(0,false),(1,false),(2,false),(3,false),(10,false)] (.seq (ag [mv 11 10,mv 12 3,bt 13 .lss 11 12] [0,1,2,3,10,13]
 (.cond (.t 13) .skip
 (.exit 0)))
 (.seq (.block 1 (.Az [] [(0,0,mv 16 0),(0,1,mv 17 1),(0,2,mv 18 10),(0,3,bt 19 .add 17 18),(1,4,mv 20 0),(1,5,mv 21 2),(1,6,mv 22 10),(1,7,bt 23 .add 21 22),(0,8,mv 24 0),(0,9,mv 25 2),(0,10,mv 26 10),(0,11,bt 27 .add 25 26),(0,12,ia 28 [.sl false 4 0 []] 24 27),(0,13,ld 29 1 28),(0,14,mv 30 0),(0,15,mv 31 1),(0,16,mv 32 10),(0,17,bt 33 .add 31 32),(0,18,ia 34 [.sl false 4 0 []] 30 33),(0,19,ld 35 1 34),(0,20,ia 36 [.sl false 4 0 []] 16 19),(2,21,st 1 36 29),(0,22,ia 37 [.sl false 4 0 []] 20 23),(2,23,st 1 37 35)] [0,1,2,3,10]))
 (.bP none [mv 14 10,bn 15 .add 14 1,mv 10 15] [0,1,2,3,10]))))))
theorem PF:aY prog 352 38 [] IZ=true:=by kernel_rfl
def sw2(l:List VL)(i j:Int):List VL:=(l.set i.toNat (ix l j)).set j.toNat (ix l i)
theorem Tc(l:List VL)(i j:Int):(sw2 l i j).length=l.length:=by unfold sw2;rw[List.length_set,List.length_set]
def HJ(a b n:Int)(q:List VL×Int):Option ((List VL×Int)⊕List VL):=
 bif decide (q.2<n)then
  aH (0<=q.2/\0<=a/\0<=b/\a+q.2<q.1.length/\b+q.2<q.1.length/\(q.1.length:Int)<2^62)<|some (.inl (sw2 q.1 (a+q.2) (b+q.2),q.2+1))
 else some (.inr q.1)
def Rh(l:List VL)(a b n:Int):Option (List VL):=iter (HJ a b n) (l,0)
theorem QM{s:ab}{rb cap:Nat}{sp:List AV}{l:List VL}{a b n:Int}{Q:List AV->ab->Prop}
 (hm:ok (Rh l a b n) fun l'=>Q [] (s.set rb (.cells (flat l'++sp)))):FN prog 352 [.arr rb 0 l.length cap,.int .i64 a,.int .i64 b,.int .i64 n,.fn 224 [] []] (s.set rb (.cells (flat l++sp))) Q:=by
 unfold Rh at hm
 refine FO PF rfl rfl ?_
 rw[IZ]
 simp -implicitDefEqProofs only[go_sem,seval]
 refine ch (fun(q:List VL×Int)=>(⟨[(0,.arr rb 0 q.1.length cap),(1,.int .i64 a),(2,.int .i64 b),(3,.int .i64 n),(10,.int .i64 q.2)],[],s.set rb (.cells (flat q.1++sp))⟩:St)) rfl ?_ hm
 intro J q hb
 unfold HJ at hb
 cases hlt:decide (q.2<n)with
 |false=>
  rw[hlt,cond_false,aP]at hb
  simp -implicitDefEqProofs only[go_sem,seval,hlt,Bool.true_eq_false,Bool.false_eq_true,false_implies,true_implies,true_and,and_true]
  exact hb
 |true=>
  rw[hlt,cond_true,fM,aP]at hb
  obtain⟨⟨h0,ha,hbb,hal,hbl,hln⟩,hb⟩:=hb
  have w1:ao (a+q.2)=a+q.2:=au (by omega) (by omega)
  have w2:ao (b+q.2)=b+q.2:=au (by omega) (by omega)
  have w3:ao (q.2+1)=q.2+1:=au (by omega) (by omega)
  obtain⟨r1,r2⟩:=na q.1 sp (j:=a+q.2) (by omega) hal
  obtain⟨r3,r4⟩:=na q.1 sp (j:=b+q.2) (by omega) hbl
  generalize hcs:flat q.1++sp=cs
  rw[hcs]at r1 r2 r3 r4
  have d1:=decide_eq_true r1
  have d3:=decide_eq_true r3
  simp -implicitDefEqProofs only[go_sem,seval,hlt,w1,w2,w3,r2,r4,d1,d3,Bool.true_eq_false,Bool.false_eq_true,false_implies,true_implies,true_and,and_true]
  subst hcs
  have hl:(q.1.set (a+q.2).toNat (ix q.1 (b+q.2))).length=q.1.length:=List.length_set ..
  rw[JM q.1 sp (ix q.1 (b+q.2)) (j:=a+q.2) (by omega) hal,JM _ sp (ix q.1 (a+q.2)) (j:=b+q.2) (by omega) (by rw[hl];omega)]
  obtain⟨r5,_⟩:=na (q.1.set (a+q.2).toNat (ix q.1 (b+q.2))) sp (j:=b+q.2) (by omega) (by rw[hl];omega)
  simp only[iY,Tc]at hb
  refine⟨⟨by omega,by omega⟩,⟨by omega,by omega⟩,⟨by omega,by omega⟩,r1,⟨by omega,by omega⟩,r5,?_⟩
  exact hb
def LZ:IC:=
 (ag [mv 12 2,mv 13 1,bt 14 .sub 12 13,mv 10 14] [0,2,3,4,10]
 (ag [mv 15 3,mv 16 2,bt 17 .sub 15 16,mv 11 17] [0,2,4,10,11]
 (.seq (.block 0 (.loop [(0,false),(2,false),(4,false),(10,false),(11,false)] (.seq (ag [mv 18 10,mv 19 11,bt 20 .neq 18 19] [0,2,4,10,11,20]
 (.cond (.t 20) .skip
 (.exit 0)))
 (.block 1 (ag [mv 21 10,mv 22 11,bt 23 .gtr 21 22] [0,2,4,10,11,23]
 (.cond (.t 23) (ag [mv 24 0,mv 25 2,mv 26 10,bt 27 .sub 25 26,mv 28 2,mv 29 11,mv 30 4,i1 31 (.call 352 [(.t 24),(.t 27),(.t 28),(.t 29),(.t 30)])] [0,2,4,10,11]
 (.bP none [mv 32 10,mv 33 11,bt 34 .sub 32 33,mv 10 34] [0,2,4,10,11]))
 (ag [mv 35 0,mv 36 2,mv 37 10,bt 38 .sub 36 37,mv 39 2,mv 40 11,bt 41 .add 39 40,mv 42 10,bt 43 .sub 41 42,mv 44 10,mv 45 4,i1 46 (.call 352 [(.t 35),(.t 38),(.t 43),(.t 44),(.t 45)])] [0,2,4,10,11]
 (.bP none [mv 47 11,mv 48 10,bt 49 .sub 47 48,mv 11 49] [0,2,4,10,11]))))))))
 (.bP none [mv 50 0,mv 51 2,mv 52 10,bt 53 .sub 51 52,mv 54 2,mv 55 10,mv 56 4,i1 57 (.call 352 [(.t 50),(.t 53),(.t 54),(.t 55),(.t 56)])] []))))
theorem R9:aY prog 328 58 [] LZ=true:=by kernel_rfl
def Bb(L:Nat)(m:Int)(q:List VL×Int×Int):Option ((List VL×Int×Int)⊕(List VL×Int)):=
 aH (q.1.length=L/\0<=q.2.1/\0<=q.2.2/\q.2.1<=m/\m+q.2.2<=q.1.length/\(q.1.length:Int)<2^61)<|
 bif q.2.1 !=q.2.2 then
  bif decide (q.2.1>q.2.2)then ba (Rh q.1 (m -q.2.1) m q.2.2) fun l=>some (.inl (l,q.2.1 -q.2.2,q.2.2))
  else ba (Rh q.1 (m -q.2.1) (m+q.2.2 -q.2.1) q.2.1) fun l=>some (.inl (l,q.2.1,q.2.2 -q.2.1))
 else some (.inr (q.1,q.2.1))
def Ny(l:List VL)(a m b:Int):Option (List VL):=ba (iter (Bb l.length m) (l,m -a,b -m)) fun q=>aH (q.1.length=l.length)<|Rh q.1 (m -q.2) m q.2
theorem W7{s:ab}{rb cap:Nat}{sp:List AV}{l:List VL}{a m b:Int}{Q:List AV->ab->Prop}(hab:0<=a/\a<=m/\m<=b/\b<=l.length/\(l.length:Int)<2^61)
 (hm:ok (Ny l a m b) fun l'=>Q [] (s.set rb (.cells (flat l'++sp)))):FN prog 328 [.arr rb 0 l.length cap,.int .i64 a,.int .i64 m,.int .i64 b,.fn 224 [] []] (s.set rb (.cells (flat l++sp))) Q:=by
 unfold Ny at hm
 rw[eF]at hm
 refine FO R9 rfl rfl ?_
 rw[LZ]
 have w1:ao (m -a)=m -a:=au (by omega) (by omega)
 have w2:ao (b -m)=b -m:=au (by omega) (by omega)
 simp -implicitDefEqProofs only[go_sem,seval,w1,w2]
 refine ch (fun(q:List VL×Int×Int)=>(⟨[(0,.arr rb 0 l.length cap),(2,.int .i64 m),(4,.fn 224 [] []),(10,.int .i64 q.2.1),(11,.int .i64 q.2.2)],[],s.set rb (.cells (flat q.1++sp))⟩:St)) rfl ?_ hm
 intro J q hb
 unfold Bb at hb
 rw[fM]at hb
 obtain⟨⟨hL,h1,h2,h3,h4,h5⟩,hb⟩:=hb
 have w3:ao (m -q.2.1)=m -q.2.1:=au (by omega) (by omega)
 cases hne:(q.2.1 !=q.2.2)with
 |false=>
  rw[hne,cond_false,aP]at hb
  simp -implicitDefEqProofs only[go_sem,seval,hne,w3,Bool.true_eq_false,Bool.false_eq_true,false_implies,true_implies,true_and,and_true]
  simp only[sQ,fM]at hb
  obtain⟨_,l',e,hb⟩:=hb
  rw[<-hL]
  refine QM ⟨l',e,?_⟩
  simp -implicitDefEqProofs only[go_sem,seval]
  exact hb
 |true=>
  rw[hne,cond_true]at hb
  simp -implicitDefEqProofs only[go_sem,seval,hne,w3,Bool.true_eq_false,Bool.false_eq_true,false_implies,true_implies,true_and,and_true]
  rw[<-hL]
  refine⟨fun hx=>?_,fun hx=>?_⟩
  ·rw[hx,cond_true,eF]at hb
   obtain⟨l',e,hb⟩:=hb
   refine QM ⟨l',e,?_⟩
   have w4:ao (q.2.1 -q.2.2)=q.2.1 -q.2.2:=au (by omega) (by omega)
   simp -implicitDefEqProofs only[go_sem,seval,w4]
   rw[hL]
   simp only[aP,iY]at hb
   exact hb
  ·rw[hx,cond_false,eF]at hb
   obtain⟨l',e,hb⟩:=hb
   have w4:ao (m+q.2.2)=m+q.2.2:=au (by omega) (by omega)
   have w5:ao (m+q.2.2 -q.2.1)=m+q.2.2 -q.2.1:=au (by omega) (by omega)
   have w6:ao (q.2.2 -q.2.1)=q.2.2 -q.2.1:=au (by omega) (by omega)
   simp -implicitDefEqProofs only[go_sem,seval,w4,w5]
   refine QM ⟨l',e,?_⟩
   simp -implicitDefEqProofs only[go_sem,seval,w6]
   rw[hL]
   simp only[aP,iY]at hb
   exact hb
end Go.AB
end
section
namespace Go.AB
open Go
theorem gD{S O:Type}{body:S->Option (S⊕O)}{s0:S}{o:O}(n:Nat)(st:Nat->S)(h0:st 0=s0)(hn:n<18446744073709551615)(hs:∀k,k<n->body (st k)=some (.inl (st (k+1))))(he:body (st n)=some (.inr o)):iter body s0=some o:=by
 have key:∀j,j<=n->∀m,bU body (m+1+j) (st (n -j))=some o:=by
  intro j
  induction j with
  |zero=>
   intro _ m
   show bU body (m+1) (st n)=some o
   unfold bU
   rw[he]
  |succ j ih=>
   intro hj m
   show bU body (m+1+j+1) (st (n -(j+1)))=some o
   unfold bU
   rw[hs _ (by omega),show n -(j+1)+1=n -j by omega]
   exact ih (by omega) m
 have:=key n (Nat.le_refl n) (18446744073709551616 -1 -n)
 rw[Nat.sub_self,h0,show 18446744073709551616 -1 -n+1+n=18446744073709551616 by omega]at this
 exact this
theorem I6{A O:Type}{body:A×Int->Option ((A×Int)⊕O)}{a0:A}{o:O}(n:Nat)(acc:Nat->A)(h0:acc 0=a0)(hn:n<4611686018427387904)(hs:∀k,k<n->body (acc k,(k:Int))=some (.inl (acc (k+1),ao ((k:Int)+1))))(he:body (acc n,(n:Int))=some (.inr o)):iter body (a0,0)=some o:=
 gD n (fun k=>(acc k,(k:Int))) (by rw[h0];rfl) (by omega) (fun k hk=>by rw[hs k hk,au (by omega) (by omega)];rfl) he
theorem mP{O:Type}{body:Int->Option (Int⊕O)}{o:O}(n:Nat)(hn:n<4611686018427387904)(hs:∀k,k<n->body (k:Int)=some (.inl (ao ((k:Int)+1))))(he:body (n:Int)=some (.inr o)):iter body 0=some o:=
 gD n (fun k=>(k:Int)) rfl (by omega) (fun k hk=>by rw[hs k hk,au (by omega) (by omega)];rfl) he
theorem eu{α β:Type}{o:Option α}{a:α}{K:α->Option β}{r:Option β}(h:o=some a)(k:K a=r):jn o K=r:=by rw[h];exact k
theorem ah{α β:Type}{o:Option α}{a:α}{K:α->Option β}{r:Option β}(h:o=some a)(k:K a=r):ba o K=r:=by rw[h];exact k
theorem aN{X Y α:Type}{o:Option (X⊕Y)}{z:X⊕Y}{F:X->Option α}{G:Y->Option α}{r:Option α}(h:o=some z)(k:(match z with|.inl a=>F a|.inr b=>G b)=r):oU o F G=r:=by
 rw[h]
 cases z<;>exact k
theorem gm{X Y α:Type}{o:Option (X⊕Y)}{z:X⊕Y}{F:X->Option α}{G:Y->Option α}{r:Option α}(h:o=some z)(k:(match z with|.inl a=>F a|.inr b=>G b)=r):kU o F G=r:=by
 rw[h]
 cases z<;>exact k
theorem af{α:Type}{c:Prop}[Decidable c]{o r:Option α}(h:c)(k:o=r):aH c o=r:=by rw[c9 h];exact k
theorem al{α:Type}{c:Prop}[Decidable c]{a b r:α}(h:c)(k:a=r):(if c then a else b)=r:=by rw[if_pos h];exact k
theorem ae{α:Type}{c:Prop}[Decidable c]{a b r:α}(h:¬c)(k:b=r):(if c then a else b)=r:=by rw[if_neg h];exact k
inductive iO{S O:Type}(body:S->Option (S⊕O)):Nat->S->O->Prop
 |stop {m:Nat} {s:S} {o:O} (h:body s=some (.inr o)):iO body (m+1) s o
 |step {m:Nat} {s t:S} {o:O} (h:body s=some (.inl t)) (k:iO body m t o):iO body (m+1) s o
theorem iO.bU{S O:Type}{body:S->Option (S⊕O)}{m:Nat}{s:S}{o:O}(h:iO body m s o):∀n,m<=n->bU body n s=some o:=by
 induction h with
 |stop h=>
  intro n hn
  obtain⟨k,rfl⟩:∃k,n=k+1:=⟨n -1,by omega⟩
  unfold AB.bU;rw[h]
 |step h _ ih=>
  intro n hn
  obtain⟨k,rfl⟩:∃k,n=k+1:=⟨n -1,by omega⟩
  unfold AB.bU;rw[h]
  exact ih k (by omega)
theorem iO.iter{S O:Type}{body:S->Option (S⊕O)}{m:Nat}{s:S}{o:O}(h:iO body m s o)(hm:m<=18446744073709551616):iter body s=some o:=h.bU _ hm
end Go.AB
end
section
set_option linter.unusedSectionVars false
namespace Go.AB
open Go
section
variable{α:Type}[aR α]
def NQ(l:List α)(i j:Int):List α:=(l.set i.toNat (ix l j)).set j.toNat (ix l i)
theorem Tm(l:List α)(i j:Int):(NQ l i j).length=l.length:=by unfold NQ;rw[List.length_set,List.length_set]
theorem PG{P S:List α}(x:α):ix (P++x::S) ((P.length:Nat):Int)=x:=by
 rw[jZ (by simp)]
 simp
theorem Mv{P S:List α}(x y:α):(P++x::S).set P.length y=P++y::S:=by rw[List.set_append_right _ _ (Nat.le_refl _),Nat.sub_self];rfl
theorem HM(P M S:List α)(x y:α):NQ (P++x::M++y::S) ((P.length:Nat):Int) (((P.length+1+M.length:Nat)):Int)=P++y::M++x::S:=by
 have e1:P++x::M++y::S=P++x::(M++y::S):=by simp
 have e2:∀z,P++z::M++y::S=(P++z::M)++y::S:=fun z=>rfl
 have l2:∀z:α,(P++z::M).length=P.length+1+M.length:=fun z=>by simp;omega
 unfold NQ
 rw[Int.toNat_natCast,Int.toNat_natCast]
 have h1:ix (P++x::M++y::S) ((P.length:Nat):Int)=x:=by rw[e1];exact PG x
 have h2:ix (P++x::M++y::S) (((P.length+1+M.length:Nat)):Int)=y:=by rw[<-l2 x];exact PG y
 rw[h1,h2,e1,Mv,show P++y::(M++y::S)=(P++y::M)++y::S by simp,<-l2 y,Mv]
def xx(l:List α)(a b:Nat):Nat->List α
 |0=>l
 |k+1=>NQ (xx l a b k) ((a+k:Nat):Int) ((b+k:Nat):Int)
theorem Fy(l:List α)(a b:Nat):∀k,(xx l a b k).length=l.length
 |0=>rfl
 |k+1=>by rw[xx,Tm];exact Fy l a b k
theorem Fx(P M S:List α):∀(k:Nat)(A B A' B':List α),A.length=k->B.length=k->A'.length=B'.length->xx (P++(A++A')++M++(B++B')++S) P.length (P.length+(A++A').length+M.length) k=P++(B++A')++M++(A++B')++S
 |0,A,B,A',B',h1,h2,_=>by
  obtain rfl:A=[]:=List.eq_nil_of_length_eq_zero h1
  obtain rfl:B=[]:=List.eq_nil_of_length_eq_zero h2
  simp[xx]
 |k+1,A,B,A',B',h1,h2,h'=>by
  obtain⟨A,x,rfl⟩:∃A0 x,A=A0++[x]:=by
   rcases List.eq_nil_or_concat A with rfl|⟨A0,x,rfl⟩
   ·simp at h1
   ·exact⟨A0,x,by simp⟩
  obtain⟨B,y,rfl⟩:∃B0 y,B=B0++[y]:=by
   rcases List.eq_nil_or_concat B with rfl|⟨B0,y,rfl⟩
   ·simp at h2
   ·exact⟨B0,y,by simp⟩
  have l1:A.length=k:=by simpa using h1
  have l2:B.length=k:=by simpa using h2
  have hi:=Fx P M S k A B (x::A') (y::B') l1 l2 (by simpa using h')
  have e:P++((A++[x])++A')++M++((B++[y])++B')++S=P++(A++(x::A'))++M++(B++(y::B'))++S:=by simp
  rw[xx,e,show((A++[x])++A').length=(A++(x::A')).length by simp,hi]
  have sw:=HM (P++B) (A'++M++A) (B'++S) x y
  rw[show P.length+k=(P++B).length by simp[l2],show P.length+(A++x::A').length+M.length+k=(P++B).length+1+(A'++M++A).length by simp[l1,l2];omega]
  have e2:P++(B++x::A')++M++(A++y::B')++S=P++B++x::(A'++M++A)++y::(B'++S):=by simp
  rw[e2,sw]
  simp
theorem zi(P A M B S:List α)(h:A.length=B.length):xx (P++A++M++B++S) P.length (P.length+A.length+M.length) A.length=P++B++M++A++S:=by
 have:=Fx P M S A.length A B [] [] rfl h.symm rfl
 simpa using this
end
end Go.AB
end
section
namespace Go.AB
open Go
theorem Lm(l:List VL)(a b n:Nat)(h1:a+n<=l.length)(h2:b+n<=l.length)(hl:(l.length:Int)<2^60):Rh l (a:Int) (b:Int) (n:Int)=some (xx l a b n):=by
 unfold Rh
 refine gD n (fun k=>(xx l a b k,(k:Int))) rfl (by omega) (fun k hk=>?_) ?_
 ·unfold HJ
  have hd:decide ((k:Int)<(n:Int))=true:=by simp;omega
  show(bif decide ((k:Int)<(n:Int))then _ else _)=_
  rw[hd,cond_true]
  have hls:=Fy l a b k
  refine af ⟨by show(0:Int)<=(k:Int);omega,by omega,by omega,by rw[hls];show(a:Int)+(k:Int)<_;omega,by rw[hls];show(b:Int)+(k:Int)<_;omega,by rw[hls];omega⟩ rfl
 ·unfold HJ
  have hd:decide ((n:Int)<(n:Int))=false:=by simp
  show(bif decide ((n:Int)<(n:Int))then _ else _)=_
  rw[hd,cond_false]
theorem S2(P X Y S:List VL)(hX:0<X.length)(hY:0<Y.length)(hl:((P++X++Y++S).length:Int)<2^60):
 Ny (P++X++Y++S) (P.length:Int) ((P.length+X.length:Nat):Int) ((P.length+X.length+Y.length:Nat):Int)=some (P++Y++X++S):=by
 generalize hL:(P++X++Y++S).length=L at hl
 generalize hm:P.length+X.length=m
 generalize hT:P++Y++X++S=T
 have key:∃z,Ny (P++X++Y++S) (P.length:Int) (m:Int) ((m+Y.length:Nat):Int)=some z/\z=T:=by
  unfold Ny
  rw[show(m:Int) -(P.length:Int)=(X.length:Int) by omega,show((m+Y.length:Nat):Int) -(m:Int)=(Y.length:Int) by omega,hL]
  obtain⟨o,h1,P',X',Y',S',h2,h3,h4,h5,h6⟩:=dn (body:=Bb L (m:Int)) (s0:=(P++X++Y++S,(X.length:Int),(Y.length:Int))) (fun q=>∃P' X' Y' S':List VL,q=(P'++X'++Y'++S',(X'.length:Int),(Y'.length:Int))/\P'.length+X'.length=m/\0<X'.length/\0<Y'.length/\(P'++X'++Y'++S').length=L/\P'++Y'++X'++S'=T) (fun q=>(q.2.1+q.2.2).toNat)
   (fun o=>∃P' X' Y' S':List VL,o=(P'++X'++Y'++S',(X'.length:Int))/\P'.length+X'.length=m/\X'.length=Y'.length/\(P'++X'++Y'++S').length=L/\P'++Y'++X'++S'=T) ⟨P,X,Y,S,rfl,hm,hX,hY,hL,hT⟩
   (by
     simp only[List.length_append]at hL
     show((X.length:Int)+(Y.length:Int)).toNat<_
     omega) (by
     rintro q ⟨P',X',Y',S',rfl,k1,k2,k3,k4,k5⟩
     have k4':=k4
     simp only[List.length_append]at k4'
     unfold Bb
     by_cases hne:X'.length=Y'.length
     ·have e:((X'.length:Int)!=(Y'.length:Int))=false:=by rw[hne];simp
      refine⟨.inr (P'++X'++Y'++S',(X'.length:Int)),af ⟨k4,by show(0:Int)<=(X'.length:Int);omega,by show(0:Int)<=(Y'.length:Int);omega,by show(X'.length:Int)<=_;omega,by show(m:Int)+(Y'.length:Int)<=((P'++X'++Y'++S').length:Int);omega,by show((P'++X'++Y'++S').length:Int)<_;omega⟩ (by show(bif((X'.length:Int)!=(Y'.length:Int))then _ else _)=_;rw[e,cond_false]),P',X',Y',S',rfl,k1,hne,k4,k5⟩
     ·have e:((X'.length:Int)!=(Y'.length:Int))=true:=by simp;omega
      by_cases hgt:X'.length>Y'.length
      ·have eg:decide ((X'.length:Int)>(Y'.length:Int))=true:=by simp;omega
       obtain⟨Xa,Xb,rfl,hXa⟩:∃Xa Xb,X'=Xa++Xb/\Xa.length=Y'.length:=⟨X'.take Y'.length,X'.drop Y'.length,(List.take_append_drop ..).symm,by rw[List.length_take];omega⟩
       simp only[List.length_append]at k1 k2 k4' hgt
       have sw:=Lm (P'++(Xa++Xb)++Y'++S') P'.length m Y'.length (by rw[k4];omega) (by rw[k4];omega) (by rw[k4];exact hl)
       have st:=zi P' Xa Xb Y' S' hXa
       rw[show P'.length+Xa.length+Xb.length=m by omega,hXa]at st
       have e2:P'++(Xa++Xb)++Y'++S'=P'++Xa++Xb++Y'++S':=by simp
       rw[e2,st]at sw
       have k4a:(P'++Xa++Xb++Y'++S').length=L:=by rw[<-e2];exact k4
       refine⟨.inl (P'++Y'++Xb++Xa++S',(Xb.length:Int),(Xa.length:Int)),af ⟨k4,by show(0:Int)<=((Xa++Xb).length:Int);omega,by show(0:Int)<=(Y'.length:Int);omega,by show((Xa++Xb).length:Int)<=_;rw[List.length_append];omega,by show(m:Int)+(Y'.length:Int)<=((P'++(Xa++Xb)++Y'++S').length:Int);omega,by show((P'++(Xa++Xb)++Y'++S').length:Int)<_;omega⟩ ?_,⟨P'++Y',Xb,Xa,S',rfl,by rw[List.length_append];omega,by omega,by omega,by simp only[List.length_append];omega,by rw[<-k5];simp⟩,?_⟩
       ·show(bif(((Xa++Xb).length:Int)!=(Y'.length:Int))then(bif decide (((Xa++Xb).length:Int)>(Y'.length:Int))then _ else _)else _)=_
        rw[e,cond_true,eg,cond_true]
        refine ah (a:=P'++Y'++Xb++Xa++S') ?_ ?_
        ·rw[<-sw]
         show Rh (P'++(Xa++Xb)++Y'++S') ((m:Int) -((Xa++Xb).length:Int)) _ _=_
         rw[e2,show(m:Int) -((Xa++Xb).length:Int)=(P'.length:Int) by rw[List.length_append];omega]
        ·show some (Sum.inl (_,((Xa++Xb).length:Int) -(Y'.length:Int),(Y'.length:Int)))=_
         rw[show((Xa++Xb).length:Int) -(Y'.length:Int)=(Xb.length:Int) by rw[List.length_append];omega,show(Y'.length:Int)=(Xa.length:Int) by omega]
       ·show((Xb.length:Int)+(Xa.length:Int)).toNat<(((Xa++Xb).length:Int)+(Y'.length:Int)).toNat
        rw[List.length_append];omega
      ·have eg:decide ((X'.length:Int)>(Y'.length:Int))=false:=by simp;omega
       obtain⟨Ya,Yb,rfl,hYb⟩:∃Ya Yb,Y'=Ya++Yb/\Yb.length=X'.length:=⟨Y'.take (Y'.length -X'.length),Y'.drop (Y'.length -X'.length),(List.take_append_drop ..).symm,by rw[List.length_drop];omega⟩
       simp only[List.length_append]at k3 k4' hne hgt
       have sw:=Lm (P'++X'++(Ya++Yb)++S') P'.length (m+Ya.length) X'.length (by rw[k4];omega) (by rw[k4];omega) (by rw[k4];exact hl)
       have st:=zi P' X' Ya Yb S' hYb.symm
       rw[show P'.length+X'.length+Ya.length=m+Ya.length by omega]at st
       have e2:P'++X'++(Ya++Yb)++S'=P'++X'++Ya++Yb++S':=by simp
       rw[e2,st]at sw
       refine⟨.inl (P'++Yb++Ya++X'++S',(Yb.length:Int),(Ya.length:Int)),af ⟨k4,by show(0:Int)<=(X'.length:Int);omega,by show(0:Int)<=((Ya++Yb).length:Int);omega,by show(X'.length:Int)<=_;omega,by show(m:Int)+((Ya++Yb).length:Int)<=((P'++X'++(Ya++Yb)++S').length:Int);rw[k4,List.length_append];omega,by show((P'++X'++(Ya++Yb)++S').length:Int)<_;omega⟩ ?_,⟨P',Yb,Ya,X'++S',by simp,by omega,by omega,by omega,by simp only[List.length_append];omega,by rw[<-k5];simp⟩,?_⟩
       ·show(bif((X'.length:Int)!=((Ya++Yb).length:Int))then(bif decide ((X'.length:Int)>((Ya++Yb).length:Int))then _ else _)else _)=_
        rw[e,cond_true,eg,cond_false]
        refine ah (a:=P'++Yb++Ya++X'++S') ?_ ?_
        ·rw[<-sw]
         show Rh (P'++X'++(Ya++Yb)++S') ((m:Int) -(X'.length:Int)) ((m:Int)+((Ya++Yb).length:Int) -(X'.length:Int)) _=_
         rw[e2,show(m:Int) -(X'.length:Int)=(P'.length:Int) by omega,show(m:Int)+((Ya++Yb).length:Int) -(X'.length:Int)=((m+Ya.length:Nat):Int) by rw[List.length_append];omega]
        ·show some (Sum.inl (_,(X'.length:Int),((Ya++Yb).length:Int) -(X'.length:Int)))=_
         rw[show((Ya++Yb).length:Int) -(X'.length:Int)=(Ya.length:Int) by rw[List.length_append];omega,show(X'.length:Int)=(Yb.length:Int) by omega]
       ·show((Yb.length:Int)+(Ya.length:Int)).toNat<((X'.length:Int)+((Ya++Yb).length:Int)).toNat
        rw[List.length_append];omega)
  subst h2
  have h5':=h5
  simp only[List.length_append]at h5'
  refine⟨_,ah h1 (af h5 ?_),rfl⟩
  have sw:=Lm (P'++X'++Y'++S') P'.length m X'.length (by rw[h5];omega) (by rw[h5];omega) (by rw[h5];exact hl)
  have st:=zi P' X' [] Y' S' h4
  rw[List.append_nil,List.append_nil,List.length_nil,Nat.add_zero,h3]at st
  rw[st,h6]at sw
  rw[<-sw]
  show Rh _ ((m:Int) -(X'.length:Int)) _ _=_
  rw[show(m:Int) -(X'.length:Int)=(P'.length:Int) by omega]
 obtain⟨z,h1,rfl⟩:=key
 exact h1
end Go.AB
end
section
set_option linter.unusedSectionVars false
namespace Go.AB
open Go
structure TP{α:Type}(lt:α->α->Bool):Prop where
 asy:∀x y,lt x y=true->lt y x=false
 tr:∀x y z,lt y x=false->lt z y=false->lt z x=false
section
variable{α:Type}(lt:α->α->Bool)
def iM(l:List α):Prop:=l.Pairwise fun x y=>lt y x=false
variable{lt}
theorem iM.app{A B:List α}:iM lt (A++B)↔iM lt A/\iM lt B/\∀a∈A,∀b∈B,lt b a=false:=List.pairwise_append
theorem iM.one(x:α):iM lt [x]:=List.pairwise_singleton _ _
theorem TP.last(h:TP lt){A:List α}(hA:iM lt A){u v:α}(hu:A.getLast?=some u)(hv:v∈A):lt u v=false:=by
 obtain⟨A,rfl⟩:=List.getLast?_eq_some_iff.1 hu
 rcases List.mem_append.1 hv with hv|hv
 ·exact(iM.app.1 hA).2.2 v hv u (by simp)
 ·have:v=u:=by simpa using hv
  subst this
  cases e:lt v v with
  |false=>rfl
  |true=>rw[<-e];exact h.asy v v e
theorem TP.head(h:TP lt){A:List α}(hA:iM lt A){u v:α}(hu:A.head?=some u)(hv:v∈A):lt v u=false:=by
 cases A with
 |nil=>cases hu
 |cons a A=>
  cases hu
  rcases List.mem_cons.1 hv with rfl|hv
  ·cases e:lt v v with
   |false=>rfl
   |true=>rw[<-e];exact h.asy v v e
  ·exact(List.pairwise_cons.1 hA).1 v hv
theorem TP.LJ(h:TP lt){A B:List α}(hA:iM lt A)(hB:iM lt B)(hab:∀u v,A.getLast?=some u->B.head?=some v->lt v u=false):∀a∈A,∀b∈B,lt b a=false:=fun a ha b hb=>by
 cases eA:A.getLast? with
 |none=>rw[List.getLast?_eq_none_iff]at eA;subst eA;cases ha
 |some u=>
  cases eB:B.head? with
  |none=>rw[List.head?_eq_none_iff]at eB;subst eB;cases hb
  |some v=>exact h.tr _ _ _ (h.tr _ _ _ (h.last hA eA ha) (hab u v eA eB)) (h.head hB eB hb)
theorem TP.put(h:TP lt){A B:List α}{x:α}(hs:iM lt (A++B))(h1:∀u,A.getLast?=some u->lt x u=false)(h2:∀v,B.head?=some v->lt v x=false):iM lt (A++x::B):=by
 obtain⟨hA,hB,hc⟩:=iM.app.1 hs
 have c1:=h.LJ hA (iM.one x) (fun u v hu hv=>by cases hv;exact h1 u hu)
 have c2:=h.LJ (iM.one x) hB (fun u v hu hv=>by cases hu;exact h2 v hv)
 refine iM.app.2 ⟨hA,List.pairwise_cons.2 ⟨fun b hb=>c2 x (by simp) b hb,hB⟩,fun a ha b hb=>?_⟩
 rcases List.mem_cons.1 hb with rfl|hb
 ·exact c1 a ha b (by simp)
 ·exact hc a ha b hb
theorem TP.Vo(h:TP lt){A B C D U V:List α}(h1:iM lt (A++B))(h2:iM lt (C++D))(hAD:∀u v,A.getLast?=some u->D.head?=some v->lt v u=false)(hCB:∀u v,C.getLast?=some u->B.head?=some v->lt v u=false)
 (hU:U.Perm (A++C))(hV:V.Perm (B++D))(sU:iM lt U)(sV:iM lt V):(U++V).Perm ((A++B)++(C++D))/\iM lt (U++V):=by
 obtain⟨a1,a2,a3⟩:=iM.app.1 h1
 obtain⟨b1,b2,b3⟩:=iM.app.1 h2
 have k1:=h.LJ a1 b2 hAD
 have k2:=h.LJ b1 a2 hCB
 refine⟨(hU.append hV).trans ?_,iM.app.2 ⟨sU,sV,fun a ha b hb=>?_⟩⟩
 ·rw[List.append_assoc,List.append_assoc]
  refine List.Perm.append_left A ?_
  rw[<-List.append_assoc,<-List.append_assoc]
  exact List.Perm.append_right D List.perm_append_comm
 ·rcases List.mem_append.1 (hU.mem_iff.1 ha)with ha|ha<;>rcases List.mem_append.1 (hV.mem_iff.1 hb)with hb|hb
  ·exact a3 a ha b hb
  ·exact k1 a ha b hb
  ·exact k2 a ha b hb
  ·exact b3 a ha b hb
end
theorem mA(a b:UInt8)(x y:List UInt8):Op.bytesLess (a::x) (b::y)=(decide (a<b)||(a==b&&Op.bytesLess x y)):=rfl
theorem lX:TP Op.bytesLess:=by
 refine⟨fun x=>?_,fun x=>?_⟩
 ·induction x with
  |nil=>intro y h;cases y with
   |nil=>rfl
   |cons b y=>rfl
  |cons a x ih=>
   intro y h
   cases y with
   |nil=>cases h
   |cons b y=>
    rw[mA]at h⊢
    simp only[Bool.or_eq_true,decide_eq_true_eq,Bool.and_eq_true,beq_iff_eq,Bool.or_eq_false_iff,decide_eq_false_iff_not,Bool.and_eq_false_iff,beq_eq_false_iff_ne,UInt8.lt_iff_toNat_lt]at h⊢
    rcases h with h|⟨rfl,h⟩
    ·exact⟨by omega,.inl fun e=>by subst e;omega⟩
    ·exact⟨by omega,.inr (ih y h)⟩
 ·induction x with
  |nil=>intro y z h1 h2;cases z with
   |nil=>rfl
   |cons c z=>cases y with
    |nil=>exact h2
    |cons b y=>rfl
  |cons a x ih=>
   intro y z h1 h2
   cases y with
   |nil=>cases h1
   |cons b y=>
    cases z with
    |nil=>cases h2
    |cons c z=>
     rw[mA]at h1 h2⊢
     simp only[Bool.or_eq_false_iff,decide_eq_false_iff_not,Bool.and_eq_false_iff,beq_eq_false_iff_ne,UInt8.lt_iff_toNat_lt]at h1 h2⊢
     obtain⟨p1,p2⟩:=h1
     obtain⟨q1,q2⟩:=h2
     refine⟨by omega,?_⟩
     by_cases e:c=a
     ·subst e
      have hb:b=c:=UInt8.toNat_inj.1 (by omega)
      subst hb
      right
      refine ih y z ?_ ?_
      ·rcases p2 with p2|p2
       ·exact absurd rfl p2
       ·exact p2
      ·rcases q2 with q2|q2
       ·exact absurd rfl q2
       ·exact q2
     ·exact .inl e
section
variable{α:Type}[aR α]
theorem Q1(l:List α){i j:Int}(h:i.toNat≠j.toNat):NQ l i j=NQ l j i:=by unfold NQ;rw[List.set_comm _ _ h]
theorem PW(P T Y:List α)(x:α){k:Nat}(hk:k<Y.length):NQ (P++(Y.take k++x::Y.drop k)++T) ((P.length+k:Nat):Int) ((P.length+k+1:Nat):Int)=P++(Y.take (k+1)++x::Y.drop (k+1))++T:=by
 have e1:Y.drop k=Y[k]::Y.drop (k+1):=List.drop_eq_getElem_cons hk
 have e2:Y.take (k+1)=Y.take k++[Y[k]]:=by rw[List.take_succ_eq_append_getElem hk]
 have lk:(P++Y.take k).length=P.length+k:=by simp;omega
 have:=HM (P++Y.take k) [] (Y.drop (k+1)++T) x Y[k]
 rw[lk]at this
 rw[e1,e2]
 simp only[List.append_assoc,List.cons_append,List.nil_append,List.length_nil,Nat.add_zero]at this⊢
 exact this
theorem Md(P T Y:List α)(x:α){k:Nat}(hk:k<Y.length):NQ (P++(Y.take (k+1)++x::Y.drop (k+1))++T) ((P.length+k+1:Nat):Int) ((P.length+k:Nat):Int)=P++(Y.take k++x::Y.drop k)++T:=by
 have e1:Y.drop k=Y[k]::Y.drop (k+1):=List.drop_eq_getElem_cons hk
 have e2:Y.take (k+1)=Y.take k++[Y[k]]:=by rw[List.take_succ_eq_append_getElem hk]
 have lk:(P++Y.take k).length=P.length+k:=by simp;omega
 have:=HM (P++Y.take k) [] (Y.drop (k+1)++T) Y[k] x
 rw[lk]at this
 rw[Q1 _ (by rw[Int.toNat_natCast,Int.toNat_natCast];omega),e1,e2]
 simp only[List.append_assoc,List.cons_append,List.nil_append,List.length_nil,Nat.add_zero]at this⊢
 exact this
theorem sZ{Y:List α}{k:Nat}{u:α}(hk:k<=Y.length)(h:(Y.take k).getLast?=some u):0<k/\∃h:k -1<Y.length,u=Y[k -1]:=by
 rw[List.getLast?_eq_getElem?,List.length_take,Nat.min_eq_left hk,List.getElem?_take]at h
 split at h
 ·rename_i hlt
  have h2:k -1<Y.length:=by omega
  rw[List.getElem?_eq_getElem h2]at h
  exact⟨by omega,h2,(Option.some.inj h).symm⟩
 ·cases h
theorem head_drop{Y:List α}{k:Nat}{v:α}(h:(Y.drop k).head?=some v):∃h:k<Y.length,v=Y[k]:=by
 rw[List.head?_drop]at h
 obtain⟨h1,h2⟩:=List.getElem?_eq_some_iff.1 h
 exact⟨h1,h2.symm⟩
theorem jY(P X T:List α){k:Nat}(hk:k<X.length):ix (P++X++T) ((P.length+k:Nat):Int)=X[k]:=by
 rw[jZ (by simp;omega)]
 rw[List.getElem_append_left (by simp;omega),List.getElem_append_right (by omega)]
 congr 1;omega
end
end Go.AB
end
section
namespace Go.AB
open Go
theorem nD{P:Program}{live:List (Nat×Bool)}{b:IC}{Q:Exit->St->Prop}{E:St}(n:Nat)(R:Nat->St->Prop)(hn:n<4611686018427387904)(h0:R 0 (E.df live))
 (h1:∀k,k<n->∀(J:St->Prop)(τ:St),R k τ->(∀U',R (k+1) U'->J U')->fN P b (nA live J Q) τ)(h2:∀(J:St->Prop)(τ:St),R n τ->fN P b (nA live J Q) τ):fN P (.loop live b) Q E:=by
 refine jX (body:=fun k:Nat=>if k<n then some (.inl (k+1))else some (.inr ())) (s0:=0) (kf:=fun _=>True) (fun k τ=>k<=n/\R k τ) ⟨Nat.zero_le _,h0⟩ ?_ ⟨(),gD n (fun k=>k) rfl (by omega) (fun k hk=>if_pos hk) (if_neg (Nat.lt_irrefl _)),trivial⟩
 rintro J k τ ⟨hk,hR⟩ hb
 by_cases hlt:k<n
 ·rw[if_pos hlt,aP]at hb
  exact h1 k hlt J τ hR fun U' h'=>hb U' ⟨hlt,h'⟩
 ·obtain rfl:k=n:=by omega
  exact h2 J τ hR
theorem aem{α:Type}[aR α](l:List α)(sp:List AV){n:Nat}(hn:n=aR.w α){j:Int}(h0:0<=j)(h:j<l.length):j.toNat*n+n<=(flat l++sp).length/\views (AB.sub (flat l++sp) (j.toNat*n) n)=aR.cells (ix l j):=by
 subst hn
 have hj:j.toNat<l.length:=by omega
 have hs:=nI l sp (aR.w α) j.toNat 1 rfl (by omega)
 refine⟨?_,?_⟩
 ·rw[List.length_append,aE]
  have:(j.toNat+1)*aR.w α<=l.length*aR.w α:=Nat.mul_le_mul_right _ (by omega)
  rw[Nat.add_mul,Nat.one_mul]at this
  omega
 ·rw[Nat.one_mul]at hs
  rw[hs,List.drop_eq_getElem_cons hj]
  have:ix l j=l[j.toNat]:=by unfold ix;simp[hj]
  rw[this]
  show views (flat [l[j.toNat]])=_
  rw[bX]
  unfold flat
  simp
theorem aep{α:Type}[aR α](l:List α)(sp:List AV){n:Nat}(hn:n=aR.w α)(x:α){j:Int}(h0:0<=j)(h:j<l.length):setAt (flat l++sp) (j.toNat*n) (aR.cells x)=flat (l.set j.toNat x)++sp:=by
 have hj:j.toNat<l.length:=by omega
 have hs:=p7 l [x] sp n j.toNat hn (by simp;omega)
 have e:flat [x]=aR.cells x:=by unfold flat;simp
 rw[e]at hs
 rw[hs,List.set_eq_take_append_cons_drop,if_pos hj]
 simp
end Go.AB
end
