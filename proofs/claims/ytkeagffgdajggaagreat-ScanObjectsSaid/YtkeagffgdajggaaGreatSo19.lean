/- A part of the proof: Zs0. -/
import Derived.Test.YtkeagffgdajggaaGreatSo14
import Derived.Test.YtkeagffgdajggaaGreatSo18
set_option linter.unusedSimpArgs false
set_option linter.unusedVariables false
section
set_option maxRecDepth 4000
namespace Go.AB
open Go
attribute[-go_sem] dv eu cV du Nat.add_zero pN dc
def mw(b_0:(List UInt8))(at_1:Int):Option (Int×Bool):=
 bq (0≤at_1∧at_1<b_0.length)<|
 bq ((!(decide (((ix b_0 at_1).toNat:Int)<48)))=true→0≤at_1∧at_1<b_0.length)<|
 if(decide (((ix b_0 at_1).toNat:Int)<48))||(decide (((ix b_0 at_1).toNat:Int)>57))then
  some (0,false)
 else
  cj (cL b_0 at_1 true) fun r1=>
  if((r1.2.2 !=0)||(decide (r1.1<1)))||(decide (r1.1>4096))then
   some (0,false)
  else
   cj (cL b_0 r1.2.1 true) fun r2=>
   if(r2.2.2 !=0)||(r2.1 !=0)then
    some (0,false)
   else
    cj (fS b_0 r2.2.1 true (aL.mk [111,98,106])) fun r3=>
    some (r1.1,r3.2==0)
def wv:IC:=
 (aj [mi 4 0,dT 5 (.bool false)] [0,1]
 (.seq (aj [mv 9 0,mv 10 1,ia 11 [.int .u8 0] 9 10,ld 12 1 11,bu 13 .lss 12 48,mv 14 13,b6 15 0 14 false,b6 16 1 14 false,cQ 17 14 false (.indexAddr [.int .u8 0] (.t 15) (.t 16)),lg 18 14 false 1 17,cQ 19 14 false (.bin .gtr (.t 18) (.c (.int .u8 57))),po 20 14 19] [0,1,20]
 (.cond (.t 20) (aj [mi 4 0,dT 5 (.bool false)] [4,5]
 .ret)
 .skip))
 (aj [mv 22 0,mv 23 1,i1 24 (.call 69 [(.t 22),(.t 23),(.c (.bool true))]),lj 21 24,ex 25 21 0,ex 26 21 1,ex 27 21 2,mv 6 25,mv 1 26,mv 7 27] [0,1,6,7]
 (.seq (aj [mv 28 7,bn 29 .neq 28 0,mv 30 29,b6 31 6 30 false,jz 32 30 false .lss 31 1,po 33 30 32,mv 34 33,b6 35 6 34 false,jz 36 34 false .gtr 35 4096,po 37 34 36] [0,1,6,37]
 (.cond (.t 37) (aj [mi 4 0,dT 5 (.bool false)] [4,5]
 .ret)
 .skip))
 (aj [mv 39 0,mv 40 1,i1 41 (.call 69 [(.t 39),(.t 40),(.c (.bool true))]),lj 38 41,ex 42 38 0,ex 43 38 1,ex 44 38 2,mv 8 42,mv 1 43,mv 7 44] [0,1,6,7,8]
 (.seq (aj [mv 45 7,bn 46 .neq 45 0,mv 47 46,b6 48 8 47 false,jz 49 47 false .neq 48 0,po 50 47 49] [0,1,6,50]
 (.cond (.t 50) (aj [mi 4 0,dT 5 (.bool false)] [4,5]
 .ret)
 .skip))
 (aj [mt 52 0,mv 53 1,i1 54 (.call 70 [(.t 52),(.t 53),(.c (.bool true)),(.c (.str [111,98,106]))]),lj 51 54,ex 55 51 0,ex 56 51 1,mv 7 56] [6,7]
 (aj [mv 57 6,mv 58 7,bn 59 .eql 58 0,mv 4 57,mv 5 59] [4,5]
 .ret))))))))
def uC:List bj:=[⟨4,true,none⟩,⟨5,true,none⟩]
theorem E6:bG Go.Proofs.Tryz.prog 32 60 uC wv=true:=by kernel_rfl
theorem FQ{b_0 at_1}{s:ab}{Q:List AV→ab→Prop}:ok (mw b_0 at_1) (fun r=>Q [.int .i64 r.1,.bool r.2] s)→FN Go.Proofs.Tryz.prog 32 [.sl false 1 b_0.length (flat b_0),.int .i64 at_1] s Q:=by
 intro h
 refine FN.of (ay mix) E6 rfl (Nat.le_of_ble_eq_true rfl) ?_
 revert h
 rw[wv,uC,mw]
 repeat'(first
  |with_reducible exact bI
  |with_reducible refine aU ?_ ?_
  |with_reducible exact aV
  |with_reducible refine bN ?_
  |with_reducible refine ak (fun _(h:cL b_0 at_1 true=some _)=>dU h) (fun r1=>?_)
  |with_reducible refine ae (fun _(h:cL b_0 at_1 true=some _)=>dU h) (fun _=>rfl) (fun r1=>?_)
  |with_reducible refine ak (fun _(h:cL b_0 at_1 true=some _)=>(by refine al ?_ (dU h);simp -implicitDefEqProofs only[go_sem,seval])) (fun r1=>?_)
  |with_reducible refine ae (fun _(h:cL b_0 at_1 true=some _)=>(by refine al ?_ (dU h);simp -implicitDefEqProofs only[go_sem,seval])) (fun _=>rfl) (fun r1=>?_)
  |with_reducible refine ak (fun _(h:cL b_0 r1.2.1 true=some _)=>dU h) (fun r2=>?_)
  |with_reducible refine ae (fun _(h:cL b_0 r1.2.1 true=some _)=>dU h) (fun _=>rfl) (fun r2=>?_)
  |with_reducible refine ak (fun _(h:cL b_0 r1.2.1 true=some _)=>(by refine al ?_ (dU h);simp -implicitDefEqProofs only[go_sem,seval])) (fun r2=>?_)
  |with_reducible refine ae (fun _(h:cL b_0 r1.2.1 true=some _)=>(by refine al ?_ (dU h);simp -implicitDefEqProofs only[go_sem,seval])) (fun _=>rfl) (fun r2=>?_)
  |with_reducible refine ak (fun _(h:fS b_0 r2.2.1 true (aL.mk [111,98,106])=some _)=>kE h) (fun r3=>?_)
  |with_reducible refine ae (fun _(h:fS b_0 r2.2.1 true (aL.mk [111,98,106])=some _)=>kE h) (fun _=>rfl) (fun r3=>?_)
  |with_reducible refine ak (fun _(h:fS b_0 r2.2.1 true (aL.mk [111,98,106])=some _)=>(by refine al ?_ (kE h);simp -implicitDefEqProofs only[go_sem,seval])) (fun r3=>?_)
  |with_reducible refine ae (fun _(h:fS b_0 r2.2.1 true (aL.mk [111,98,106])=some _)=>(by refine al ?_ (kE h);simp -implicitDefEqProofs only[go_sem,seval])) (fun _=>rfl) (fun r3=>?_)
  |simp -implicitDefEqProofs only[go_sem,seval])
theorem FP{b_0 at_1}{s:ab}{r:Int×Bool}(h:mw b_0 at_1=some r):FE Go.Proofs.Tryz.prog 32 [.sl false 1 b_0.length (flat b_0),.int .i64 at_1] s [.int .i64 r.1,.bool r.2] s:=FQ ⟨r,h,rfl,rfl⟩
def bT(c_0:UInt8):Option (Bool):=
 jn (
  if(c_0.toNat:Int)==0 then
   some ((c_0.toNat:Int)==0)
  else
   if(c_0.toNat:Int)==9 then
    some ((c_0.toNat:Int)==9)
   else
    if(c_0.toNat:Int)==10 then
     some ((c_0.toNat:Int)==10)
    else
     if(c_0.toNat:Int)==12 then
      some ((c_0.toNat:Int)==12)
     else
      if(c_0.toNat:Int)==13 then
       some ((c_0.toNat:Int)==13)
      else
       some ((c_0.toNat:Int)==32)) fun(t1:Bool)=>
 if t1 then
  some true
 else
  some false
def rR:IC:=
 (aj [dT 2 (.bool false)] [0]
 (.seq (aj [mv 3 0] [3]
 (.block 0 (.join [(4,false)] (aj [bu 5 .eql 3 0,mv 4 5] [3,4]
 (.cond (.t 4) .skip
 (aj [bu 6 .eql 3 9,mv 4 6] [3,4]
 (.cond (.t 4) .skip
 (aj [bu 7 .eql 3 10,mv 4 7] [3,4]
 (.cond (.t 4) .skip
 (aj [bu 8 .eql 3 12,mv 4 8] [3,4]
 (.cond (.t 4) .skip
 (aj [bu 9 .eql 3 13,mv 4 9] [3,4]
 (.cond (.t 4) .skip
 (.cU none [bu 10 .eql 3 32,mv 4 10] [4])))))))))))
 (.cond (.t 4) (aj [dT 2 (.bool true)] [2]
 .ret)
 .skip))))
 (aj [dT 2 (.bool false)] [2]
 .ret)))
def qN:List bj:=[⟨2,true,none⟩]
theorem Bl:bG Go.Proofs.Tryz.prog 78 11 qN rR=true:=by kernel_rfl
theorem BU{c_0}{s:ab}{Q:List AV→ab→Prop}:ok (bT c_0) (fun r=>Q [.bool r] s)→FN Go.Proofs.Tryz.prog 78 [.int .u8 c_0.toNat] s Q:=by
 intro h
 refine FN.of (ay mix) Bl rfl (Nat.le_of_ble_eq_true rfl) ?_
 revert h
 rw[rR,qN,bT]
 repeat'(first
  |with_reducible exact bI
  |with_reducible refine aU ?_ ?_
  |with_reducible exact aV
  |with_reducible refine bN ?_
  |((with_reducible refine ft (fun(t1:Bool)=>⟨[(4,.bool t1)],[],s⟩) (fun J=>?_) ?_);rotate_left;rintro t1)
  |simp -implicitDefEqProofs only[go_sem,seval])
theorem cO{c_0}{s:ab}{r:Bool}(h:bT c_0=some r):FE Go.Proofs.Tryz.prog 78 [.int .u8 c_0.toNat] s [.bool r] s:=BU ⟨r,h,rfl,rfl⟩
def cu(c_0:UInt8):Option (Bool):=
 jn (
  if(c_0.toNat:Int)==40 then
   some ((c_0.toNat:Int)==40)
  else
   if(c_0.toNat:Int)==41 then
    some ((c_0.toNat:Int)==41)
   else
    if(c_0.toNat:Int)==60 then
     some ((c_0.toNat:Int)==60)
    else
     if(c_0.toNat:Int)==62 then
      some ((c_0.toNat:Int)==62)
     else
      if(c_0.toNat:Int)==91 then
       some ((c_0.toNat:Int)==91)
      else
       if(c_0.toNat:Int)==93 then
        some ((c_0.toNat:Int)==93)
       else
        if(c_0.toNat:Int)==123 then
         some ((c_0.toNat:Int)==123)
        else
         if(c_0.toNat:Int)==125 then
          some ((c_0.toNat:Int)==125)
         else
          if(c_0.toNat:Int)==47 then
           some ((c_0.toNat:Int)==47)
          else
           some ((c_0.toNat:Int)==37)) fun(t1:Bool)=>
 if t1 then
  some true
 else
  some false
def rQ:IC:=
 (aj [dT 2 (.bool false)] [0]
 (.seq (aj [mv 3 0] [3]
 (.block 0 (.join [(4,false)] (aj [bu 5 .eql 3 40,mv 4 5] [3,4]
 (.cond (.t 4) .skip
 (aj [bu 6 .eql 3 41,mv 4 6] [3,4]
 (.cond (.t 4) .skip
 (aj [bu 7 .eql 3 60,mv 4 7] [3,4]
 (.cond (.t 4) .skip
 (aj [bu 8 .eql 3 62,mv 4 8] [3,4]
 (.cond (.t 4) .skip
 (aj [bu 9 .eql 3 91,mv 4 9] [3,4]
 (.cond (.t 4) .skip
 (aj [bu 10 .eql 3 93,mv 4 10] [3,4]
 (.cond (.t 4) .skip
 (aj [bu 11 .eql 3 123,mv 4 11] [3,4]
 (.cond (.t 4) .skip
 (aj [bu 12 .eql 3 125,mv 4 12] [3,4]
 (.cond (.t 4) .skip
 (aj [bu 13 .eql 3 47,mv 4 13] [3,4]
 (.cond (.t 4) .skip
 (.cU none [bu 14 .eql 3 37,mv 4 14] [4])))))))))))))))))))
 (.cond (.t 4) (aj [dT 2 (.bool true)] [2]
 .ret)
 .skip))))
 (aj [dT 2 (.bool false)] [2]
 .ret)))
def qM:List bj:=[⟨2,true,none⟩]
theorem Bk:bG Go.Proofs.Tryz.prog 79 15 qM rQ=true:=by kernel_rfl
theorem BT{c_0}{s:ab}{Q:List AV→ab→Prop}:ok (cu c_0) (fun r=>Q [.bool r] s)→FN Go.Proofs.Tryz.prog 79 [.int .u8 c_0.toNat] s Q:=by
 intro h
 refine FN.of (ay mix) Bk rfl (Nat.le_of_ble_eq_true rfl) ?_
 revert h
 rw[rQ,qM,cu]
 repeat'(first
  |with_reducible exact bI
  |with_reducible refine aU ?_ ?_
  |with_reducible exact aV
  |with_reducible refine bN ?_
  |((with_reducible refine ft (fun(t1:Bool)=>⟨[(4,.bool t1)],[],s⟩) (fun J=>?_) ?_);rotate_left;rintro t1)
  |simp -implicitDefEqProofs only[go_sem,seval])
theorem eI{c_0}{s:ab}{r:Bool}(h:cu c_0=some r):FE Go.Proofs.Tryz.prog 79 [.int .u8 c_0.toNat] s [.bool r] s:=BT ⟨r,h,rfl,rfl⟩
def eh(b_0:(List UInt8))(at_1:Int):Option (Bool):=
 bq ((!(at_1==0))=true→0≤az (at_1 -1)∧az (at_1 -1)<b_0.length)<|
 cj (fy (!(at_1==0)) false (bT (ix b_0 (az (at_1 -1))))) fun r1=>
 bq ((!((at_1==0)||r1))=true→0≤az (at_1 -1)∧az (at_1 -1)<b_0.length)<|
 cj (fy (!((at_1==0)||r1)) false (cu (ix b_0 (az (at_1 -1))))) fun r2=>
 some (((at_1==0)||r1)||r2)
def qx:IC:=
 (aj [dT 4 (.bool false)] [0,1]
 (.seq (.cU (some 17) [mv 5 1,bn 6 .eql 5 0,mv 7 6,b6 8 0 7 false,b6 9 1 7 false,jz 10 7 false .sub 9 1,cQ 11 7 false (.indexAddr [.int .u8 0] (.t 8) (.t 10)),lg 12 7 false 1 11,FC 13 7 false 78 12,po 14 7 13,mv 15 14,b6 16 0 15 false,b6 17 1 15 false,jz 18 15 false .sub 17 1,cQ 19 15 false (.indexAddr [.int .u8 0] (.t 16) (.t 18)),lg 20 15 false 1 19,FC 21 15 false 79 20,po 22 15 21,mv 4 22] [4])
 .ret))
def pt:List bj:=[⟨4,true,none⟩]
theorem zj:bG Go.Proofs.Tryz.prog 38 23 pt qx=true:=by kernel_rfl
theorem zy{b_0 at_1}{s:ab}{Q:List AV→ab→Prop}:ok (eh b_0 at_1) (fun r=>Q [.bool r] s)→FN Go.Proofs.Tryz.prog 38 [.sl false 1 b_0.length (flat b_0),.int .i64 at_1] s Q:=by
 intro h
 refine FN.of (ay mix) zj rfl (Nat.le_of_ble_eq_true rfl) ?_
 revert h
 rw[qx,pt,eh]
 repeat'(first
  |with_reducible exact bI
  |with_reducible refine aU ?_ ?_
  |with_reducible exact aV
  |with_reducible refine bN ?_
  |with_reducible refine bM rfl (fun _(h:bT (ix b_0 (az (at_1 -1)))=some _)=>cO h) (fun _=>rfl) (fun r1=>?_)
  |with_reducible refine bM rfl (fun _(h:bT (ix b_0 (az (at_1 -1)))=some _)=>(by refine al ?_ (cO h);simp -implicitDefEqProofs only[go_sem,seval])) (fun _=>rfl) (fun r1=>?_)
  |with_reducible refine bM rfl (fun _(h:cu (ix b_0 (az (at_1 -1)))=some _)=>eI h) (fun _=>rfl) (fun r2=>?_)
  |with_reducible refine bM rfl (fun _(h:cu (ix b_0 (az (at_1 -1)))=some _)=>(by refine al ?_ (eI h);simp -implicitDefEqProofs only[go_sem,seval])) (fun _=>rfl) (fun r2=>?_)
  |simp -implicitDefEqProofs only[go_sem,seval])
theorem jf{b_0 at_1}{s:ab}{r:Bool}(h:eh b_0 at_1=some r):FE Go.Proofs.Tryz.prog 38 [.sl false 1 b_0.length (flat b_0),.int .i64 at_1] s [.bool r] s:=zy ⟨r,h,rfl,rfl⟩
structure bd where
 Kind:Int
 bP:Int
 To:Int
 V:aa
 S:aL
instance:a8 bd:=⟨8,fun x=>[.int .i64 x.Kind,.int .i64 x.bP,.int .i64 x.To,.int .i64 x.V.Kind,.int .i64 x.V.N,.str x.V.S.b,.sl false 4 x.V.L.length (flat x.V.L),.str x.S.b],(bd.mk 0 0 0 (aa.mk 0 0 (aL.mk []) []) (aL.mk [])),by decide,fun _=>rfl,fun _=>rfl⟩
def fT(b_0:(List UInt8))(at_1:Int):Option (Int):=
 if decide (at_1<0)then
  some 0
 else
  xR (
   oD (
    iter (fun(at3:Int)=>
     if decide (at3<(b_0.length:Int))then
      bq (0≤at3∧at3<b_0.length)<|
      cj (bT (ix b_0 at3)) fun r6=>
      if r6 then
       some (.inl (az (at3+1)))
      else
       bq (0≤at3∧at3<b_0.length)<|
       if((ix b_0 at3).toNat:Int)!=37 then
        some (.inr (.inr at3))
       else
        cj (
         iter (fun(at7:Int)=>
          bq ((decide (at7<(b_0.length:Int)))=true→0≤at7∧at7<b_0.length)<|
          bq (((decide (at7<(b_0.length:Int)))&&(((ix b_0 at7).toNat:Int)!=10))=true→0≤at7∧at7<b_0.length)<|
          if((decide (at7<(b_0.length:Int)))&&(((ix b_0 at7).toNat:Int)!=10))&&(((ix b_0 at7).toNat:Int)!=13)then
           some (.inl (az (at7+1)))
          else
           some (.inr at7)) at3) fun(at9:Int)=>
        some (.inl at9)
     else
      some (.inr (.inl ()))) at_1) (fun(_:Unit)=>
    some (.inl ()))
   (fun(t5:Int)=>some (.inr t5))) (fun(_:Unit)=>
   some (b_0.length:Int))
  (fun(t2:Int)=>some t2)
def tY:IC:=
 (aj [mi 4 0] [0,1]
 (.seq (aj [mv 5 1,bn 6 .lss 5 0] [0,1,6]
 (.cond (.t 6) (aj [mi 4 0] [4]
 .ret)
 .skip))
 (.join [(0,true)] (.block 0 (.loop [(0,true),(1,false)] (.seq (aj [mv 7 1,mv 8 0,le 9 0 8,bt 10 .lss 7 9] [0,1,10]
 (.cond (.t 10) .skip
 (.exit 0)))
 (.block 1 (.seq (aj [mv 11 0,mv 12 1,ia 13 [.int .u8 0] 11 12,ld 14 1 13,c1 15 78 14] [0,1,15]
 (.cond (.t 15) (aj [mv 16 1,bn 17 .add 16 1,mv 1 17] [0,1]
 (.exit 1))
 .skip))
 (.seq (aj [mv 18 0,mv 19 1,ia 20 [.int .u8 0] 18 19,ld 21 1 20,bu 22 .neq 21 37] [0,1,22]
 (.cond (.t 22) (aj [mv 23 1,mv 4 23] [4]
 .ret)
 .skip))
 (.block 2 (.loop [(0,true),(1,false)] (.seq (aj [mv 24 1,mv 25 0,le 26 0 25,bt 27 .lss 24 26,mv 28 27,b6 29 0 28 true,b6 30 1 28 true,cQ 31 28 true (.indexAddr [.int .u8 0] (.t 29) (.t 30)),lg 32 28 true 1 31,cQ 33 28 true (.bin .neq (.t 32) (.c (.int .u8 10))),pf 34 28 33,mv 35 34,b6 36 0 35 true,b6 37 1 35 true,cQ 38 35 true (.indexAddr [.int .u8 0] (.t 36) (.t 37)),lg 39 35 true 1 38,cQ 40 35 true (.bin .neq (.t 39) (.c (.int .u8 13))),pf 41 35 40] [0,1,41]
 (.cond (.t 41) .skip
 (.exit 2)))
 (.block 3 (.cU none [mv 42 1,bn 43 .add 42 1,mv 1 43] [0,1])))))))))))
 (aj [mt 44 0,le 45 0 44,mv 4 45] [4]
 .ret))))
def sF:List bj:=[⟨4,true,none⟩]
theorem CU:bG Go.Proofs.Tryz.prog 131 46 sF tY=true:=by kernel_rfl
theorem De{b_0 at_1}{s:ab}{Q:List AV→ab→Prop}:ok (fT b_0 at_1) (fun r=>Q [.int .i64 r] s)→FN Go.Proofs.Tryz.prog 131 [.sl false 1 b_0.length (flat b_0),.int .i64 at_1] s Q:=by
 intro h
 refine FN.of (ay mix) CU rfl (Nat.le_of_ble_eq_true rfl) ?_
 revert h
 rw[tY,sF,fT]
 repeat'(first
  |with_reducible exact bI
  |with_reducible refine aU ?_ ?_
  |with_reducible exact aV
  |with_reducible refine bN ?_
  |with_reducible refine ak (fun _(h:bT (ix b_0 at3)=some _)=>cO h) (fun r6=>?_)
  |with_reducible refine ae (fun _(h:bT (ix b_0 at3)=some _)=>cO h) (fun _=>rfl) (fun r6=>?_)
  |with_reducible refine ak (fun _(h:bT (ix b_0 at3)=some _)=>(by refine al ?_ (cO h);simp -implicitDefEqProofs only[go_sem,seval])) (fun r6=>?_)
  |with_reducible refine ae (fun _(h:bT (ix b_0 at3)=some _)=>(by refine al ?_ (cO h);simp -implicitDefEqProofs only[go_sem,seval])) (fun _=>rfl) (fun r6=>?_)
  |(have _g:=at3;clear _g;(with_reducible refine dp (fun(at7:Int)=>⟨[(0,.sl false 1 b_0.length (flat b_0)),(1,.int .i64 at7)],[],s⟩) ?_ ?_);(first|exact rfl|simp -implicitDefEqProofs only[go_sem,seval]);rintro J at7)
  |((with_reducible refine dp (fun(at3:Int)=>⟨[(0,.sl false 1 b_0.length (flat b_0)),(1,.int .i64 at3)],[],s⟩) ?_ ?_);(first|exact rfl|simp -implicitDefEqProofs only[go_sem,seval]);rintro J at3)
  |((with_reducible refine dh (fun(_:Unit)=>⟨[(0,.sl false 1 b_0.length (flat b_0))],[],s⟩) (fun J=>?_) ?_);rotate_left;rintro _)
  |simp -implicitDefEqProofs only[go_sem,seval])
theorem kH{b_0 at_1}{s:ab}{r:Int}(h:fT b_0 at_1=some r):FE Go.Proofs.Tryz.prog 131 [.sl false 1 b_0.length (flat b_0),.int .i64 at_1] s [.int .i64 r] s:=De ⟨r,h,rfl,rfl⟩
def dZ(b_0:(List UInt8))(at_1:Int):Option (Int):=
 jn (
  iter (fun(at2:Int)=>
   bq ((decide (at2<(b_0.length:Int)))=true→0≤at2∧at2<b_0.length)<|
   cj (fy (decide (at2<(b_0.length:Int))) false (bT (ix b_0 at2))) fun r4=>
   bq (((decide (at2<(b_0.length:Int)))&&(!r4))=true→0≤at2∧at2<b_0.length)<|
   cj (fy ((decide (at2<(b_0.length:Int)))&&(!r4)) false (cu (ix b_0 at2))) fun r5=>
   if((decide (at2<(b_0.length:Int)))&&(!r4))&&(!r5)then
    some (.inl (az (at2+1)))
   else
    some (.inr at2)) at_1) fun(at1:Int)=>
 some at1
def wo:IC:=
 (aj [mi 4 0] [0,1]
 (.join [(1,false)] (.block 0 (.loop [(0,true),(1,false)] (.seq (.seq (.cU (some 18) [mv 5 1,mv 6 0,le 7 0 6,bt 8 .lss 5 7,mv 9 8,b6 10 0 9 true,b6 11 1 9 true,cQ 12 9 true (.indexAddr [.int .u8 0] (.t 10) (.t 11)),lg 13 9 true 1 12,FC 14 9 true 78 13,cQ 15 9 true (.un .not (.t 14)),pf 16 9 15,mv 17 16,b6 18 0 17 true,b6 19 1 17 true,cQ 20 17 true (.indexAddr [.int .u8 0] (.t 18) (.t 19)),lg 21 17 true 1 20,FC 22 17 true 79 21,cQ 23 17 true (.un .not (.t 22)),pf 24 17 23] [0,1,24])
 (.cond (.t 24) .skip
 (.exit 0)))
 (.block 1 (.cU none [mv 25 1,bn 26 .add 25 1,mv 1 26] [0,1])))))
 (aj [mv 27 1,mv 4 27] [4]
 .ret)))
def uA:List bj:=[⟨4,true,none⟩]
theorem E4:bG Go.Proofs.Tryz.prog 132 28 uA wo=true:=by kernel_rfl
theorem FH{b_0 at_1}{s:ab}{Q:List AV→ab→Prop}:ok (dZ b_0 at_1) (fun r=>Q [.int .i64 r] s)→FN Go.Proofs.Tryz.prog 132 [.sl false 1 b_0.length (flat b_0),.int .i64 at_1] s Q:=by
 intro h
 refine FN.of (ay mix) E4 rfl (Nat.le_of_ble_eq_true rfl) ?_
 revert h
 rw[wo,uA,dZ]
 repeat'(first
  |with_reducible exact bI
  |with_reducible refine aU ?_ ?_
  |with_reducible exact aV
  |with_reducible refine bN ?_
  |with_reducible refine bM rfl (fun _(h:bT (ix b_0 at2)=some _)=>cO h) (fun _=>rfl) (fun r4=>?_)
  |with_reducible refine bM rfl (fun _(h:bT (ix b_0 at2)=some _)=>(by refine al ?_ (cO h);simp -implicitDefEqProofs only[go_sem,seval])) (fun _=>rfl) (fun r4=>?_)
  |with_reducible refine bM rfl (fun _(h:cu (ix b_0 at2)=some _)=>eI h) (fun _=>rfl) (fun r5=>?_)
  |with_reducible refine bM rfl (fun _(h:cu (ix b_0 at2)=some _)=>(by refine al ?_ (eI h);simp -implicitDefEqProofs only[go_sem,seval])) (fun _=>rfl) (fun r5=>?_)
  |((with_reducible refine dp (fun(at2:Int)=>⟨[(0,.sl false 1 b_0.length (flat b_0)),(1,.int .i64 at2)],[],s⟩) ?_ ?_);(first|exact rfl|simp -implicitDefEqProofs only[go_sem,seval]);rintro J at2)
  |((with_reducible refine ft (fun(at1:Int)=>⟨[(1,.int .i64 at1)],[],s⟩) (fun J=>?_) ?_);rotate_left;rintro at1)
  |simp -implicitDefEqProofs only[go_sem,seval])
theorem fO{b_0 at_1}{s:ab}{r:Int}(h:dZ b_0 at_1=some r):FE Go.Proofs.Tryz.prog 132 [.sl false 1 b_0.length (flat b_0),.int .i64 at_1] s [.int .i64 r] s:=FH ⟨r,h,rfl,rfl⟩
def bJ(c_0:UInt8):Option (Int):=
 if(decide ((c_0.toNat:Int)≥48))&&(decide ((c_0.toNat:Int)≤57))then
  some (az ((az ((c_0.toNat:Int))) -48))
 else
  if(decide ((c_0.toNat:Int)≥97))&&(decide ((c_0.toNat:Int)≤102))then
   some (az ((az ((c_0.toNat:Int))) -87))
  else
   if(decide ((c_0.toNat:Int)≥65))&&(decide ((c_0.toNat:Int)≤70))then
    some (az ((az ((c_0.toNat:Int))) -55))
   else
    some (-1)
def wm:IC:=
 (aj [mi 2 0] [0]
 (.seq (aj [mv 3 0,bu 4 .geq 3 48,mv 5 4,b6 6 0 5 true,cQ 7 5 true (.bin .leq (.t 6) (.c (.int .u8 57))),pf 8 5 7] [0,8]
 (.cond (.t 8) (aj [mv 9 0,i1 10 (.dN .i64 (.t 9)),bn 11 .sub 10 48,mv 2 11] [2]
 .ret)
 .skip))
 (.seq (aj [mv 12 0,bu 13 .geq 12 97,mv 14 13,b6 15 0 14 true,cQ 16 14 true (.bin .leq (.t 15) (.c (.int .u8 102))),pf 17 14 16] [0,17]
 (.cond (.t 17) (aj [mv 18 0,i1 19 (.dN .i64 (.t 18)),bn 20 .sub 19 87,mv 2 20] [2]
 .ret)
 .skip))
 (.seq (aj [mv 21 0,bu 22 .geq 21 65,mv 23 22,b6 24 0 23 true,cQ 25 23 true (.bin .leq (.t 24) (.c (.int .u8 70))),pf 26 23 25] [0,26]
 (.cond (.t 26) (aj [mv 27 0,i1 28 (.dN .i64 (.t 27)),bn 29 .sub 28 55,mv 2 29] [2]
 .ret)
 .skip))
 (aj [mi 2 (-1)] [2]
 .ret)))))
def uz:List bj:=[⟨2,true,none⟩]
theorem E3:bG Go.Proofs.Tryz.prog 185 30 uz wm=true:=by kernel_rfl
theorem FG{c_0}{s:ab}{Q:List AV→ab→Prop}:ok (bJ c_0) (fun r=>Q [.int .i64 r] s)→FN Go.Proofs.Tryz.prog 185 [.int .u8 c_0.toNat] s Q:=by
 intro h
 refine FN.of (ay mix) E3 rfl (Nat.le_of_ble_eq_true rfl) ?_
 revert h
 rw[wm,uz,bJ]
 repeat'(first
  |with_reducible exact bI
  |with_reducible refine aU ?_ ?_
  |with_reducible exact aV
  |with_reducible refine bN ?_
  |simp -implicitDefEqProofs only[go_sem,seval])
theorem bS{c_0}{s:ab}{r:Int}(h:bJ c_0=some r):FE Go.Proofs.Tryz.prog 185 [.int .u8 c_0.toNat] s [.int .i64 r] s:=FG ⟨r,h,rfl,rfl⟩
def de(last_0:Bool):Option (Int):=
 if last_0 then
  some 10
 else
  some 6
def wj:IC:=
 (aj [mi 2 0] [0]
 (.seq (aj [mv 3 0] [3]
 (.cond (.t 3) (aj [mi 2 10] [2]
 .ret)
 .skip))
 (aj [mi 2 6] [2]
 .ret)))
def uy:List bj:=[⟨2,true,none⟩]
theorem E2:bG Go.Proofs.Tryz.prog 186 4 uy wj=true:=by kernel_rfl
theorem FF{last_0}{s:ab}{Q:List AV→ab→Prop}:ok (de last_0) (fun r=>Q [.int .i64 r] s)→FN Go.Proofs.Tryz.prog 186 [.bool last_0] s Q:=by
 intro h
 refine FN.of (ay mix) E2 rfl (Nat.le_of_ble_eq_true rfl) ?_
 revert h
 rw[wj,uy,de]
 repeat'(first
  |with_reducible exact bI
  |with_reducible refine aU ?_ ?_
  |with_reducible exact aV
  |with_reducible refine bN ?_
  |simp -implicitDefEqProofs only[go_sem,seval])
theorem dB{last_0}{s:ab}{r:Int}(h:de last_0=some r):FE Go.Proofs.Tryz.prog 186 [.bool last_0] s [.int .i64 r] s:=FF ⟨r,h,rfl,rfl⟩
def fc(b_0:(List UInt8))(at_1:Int)(last_2:Bool):Option ((List UInt8)×Int×Int):=
 xR (
  oD (
   iter (fun((at5,digits6):Int×(List Int))=>
    if decide (at5<(b_0.length:Int))then
     bq (0≤at5∧at5<b_0.length)<|
     xR (
      if((ix b_0 at5).toNat:Int)==62 then
       jn (
        if(Int.tmod (digits6.length:Int) 2)==1 then
         bq ((digits6.length+[0].length)*8≤room)<|
         some (digits6++[0])
        else
         some digits6) fun(digits20:(List Int))=>
       jn (
        iter (fun((out23,k24):(List UInt8)×Int)=>
         if decide (k24<(digits20.length:Int))then
          bq (0≤k24∧k24<digits20.length)<|
          bq (0≤az (k24+1)∧az (k24+1)<digits20.length)<|
          bq ((out23.length+[nh (az ((az (16*(ix digits20 k24)))+(ix digits20 (az (k24+1)))))].length)*1≤room)<|
          some (.inl (out23++[nh (az ((az (16*(ix digits20 k24)))+(ix digits20 (az (k24+1)))))],az (k24+2)))
         else
          some (.inr out23)) (([]:List UInt8),0)) fun(out22:(List UInt8))=>
       some (.inr (out22,az (at5+1),(0:Int)))
      else
       some (.inl ())) (fun(_:Unit)=>
      cj (bT (ix b_0 at5)) fun r27=>
      if r27 then
       some (.inl (az (at5+1),digits6))
      else
       cj (bJ (ix b_0 at5)) fun r28=>
       if decide (r28<0)then
        some (.inr (.inr (([]:List UInt8),(0:Int),(11:Int))))
       else
        cj (bJ (ix b_0 at5)) fun r29=>
        bq ((digits6.length+[r29].length)*8≤room)<|
        some (.inl (az (at5+1),digits6++[r29])))
     (fun((t16,t17,t18):(List UInt8)×Int×Int)=>some (.inr (.inr (t16,t17,t18))))
    else
     some (.inr (.inl ()))) (at_1,([]:List Int))) (fun(_:Unit)=>
   some (.inl ()))
  (fun((t8,t9,t10):(List UInt8)×Int×Int)=>some (.inr (t8,t9,t10)))) (fun(_:Unit)=>
  cj (de last_2) fun r30=>
  some (([]:List UInt8),0,r30))
 (fun((t2,t3,t4):(List UInt8)×Int×Int)=>some (t2,t3,t4))
def rS:IC:=
 (aj [i1 6 (.iT true (.c (.sl true 1 0 []))),mi 7 0,mi 8 0] [0,1,2]
 (aj [i1 9 (.iT true (.c (.sl true 1 0 [])))] [0,1,2,9]
 (.join [(2,false)] (.block 0 (.loop [(0,true),(1,false),(2,false),(9,false)] (.seq (aj [mv 13 1,mv 14 0,le 15 0 14,bt 16 .lss 13 15] [0,1,2,9,16]
 (.cond (.t 16) .skip
 (.exit 0)))
 (.block 1 (aj [mv 17 0,mv 18 1,ia 19 [.int .u8 0] 17 18,ld 20 1 19,mv 10 20] [0,1,2,9,10]
 (aj [mv 21 1,bn 22 .add 21 1,mv 1 22] [0,1,2,9,10]
 (.join [(0,true),(1,false),(2,false),(9,false),(10,false)] (aj [mv 23 10,bu 24 .eql 23 62] [0,1,2,9,10,24]
 (.cond (.t 24) (.join [(1,false),(9,false)] (aj [mv 25 9,le 26 0 25,bn 27 .rem 26 2,bn 28 .eql 27 1] [1,9,28]
 (.cond (.t 28) (.cU none [mt 29 9,i1 30 (.b5 1 1 oz [(0,1,(.c (.int .i64 0)))]),NC 31 1 8 29 30,mt 9 31] [1,9])
 .skip))
 (aj [i1 11 (.iT true (.c (.sl true 1 0 [])))] [1,9,11]
 (.join [(1,false),(11,false)] (aj [mi 12 0] [1,9,11,12]
 (.block 2 (.loop [(1,false),(9,false),(11,false),(12,false)] (.seq (aj [mv 32 12,mv 33 9,le 34 0 33,bt 35 .lss 32 34] [1,9,11,12,35]
 (.cond (.t 35) .skip
 (.exit 2)))
 (.seq (.block 3 (.cU (some 14) [mt 38 11,mv 39 9,mv 40 12,ia 41 oz 39 40,ld 42 1 41,i1 43 (.bin .mul (.c (.int .i64 16)) (.t 42)),mv 44 9,mv 45 12,bn 46 .add 45 1,ia 47 oz 44 46,ld 48 1 47,bt 49 .add 43 48,i1 50 (.dN .u8 (.t 49)),i1 51 (.b5 1 1 [.int .u8 0] [(0,1,(.t 50))]),NC 52 1 1 38 51,mt 11 52] [1,9,11,12]))
 (.cU none [mv 36 12,bn 37 .add 36 2,mv 12 37] [1,9,11,12]))))))
 (aj [mt 53 11,mv 54 1,mt 6 53,mv 7 54,mi 8 0] [6,7,8]
 .ret))))
 .skip))
 (.seq (aj [mv 55 10,c1 56 78 55] [0,1,2,9,10,56]
 (.cond (.t 56) (.exit 1)
 .skip))
 (.seq (aj [mv 57 10,c1 58 185 57,bn 59 .lss 58 0] [0,1,2,9,10,59]
 (.cond (.t 59) (aj [i1 6 (.iT true (.c (.sl true 1 0 []))),mi 7 0,mi 8 11] [6,7,8]
 .ret)
 .skip))
 (.cU none [mt 60 9,mv 61 10,c1 62 185 61,i1 63 (.b5 1 1 oz [(0,1,(.t 62))]),NC 64 1 8 60 63,mt 9 64] [0,1,2,9]))))))))))
 (aj [mv 65 2,c1 66 186 65,i1 6 (.iT true (.c (.sl true 1 0 []))),mi 7 0,mv 8 66] [6,7,8]
 .ret))))
def qO:List bj:=[⟨6,true,none⟩,⟨7,true,none⟩,⟨8,true,none⟩]
theorem Bm:bG Go.Proofs.Tryz.prog 133 67 qO rS=true:=by kernel_rfl
theorem BV{b_0 at_1 last_2}{s:ab}{Q:List AV→ab→Prop}:ok (fc b_0 at_1 last_2) (fun r=>Q [.sl true 1 r.1.length (flat r.1),.int .i64 r.2.1,.int .i64 r.2.2] s)→FN Go.Proofs.Tryz.prog 133 [.sl false 1 b_0.length (flat b_0),.int .i64 at_1,.bool last_2] s Q:=by
 intro h
 refine FN.of (ay mix) Bm rfl (Nat.le_of_ble_eq_true rfl) ?_
 revert h
 rw[rS,qO,fc]
 repeat'(first
  |with_reducible exact bI
  |with_reducible refine aU ?_ ?_
  |with_reducible exact aV
  |with_reducible refine bN ?_
  |with_reducible refine ak (fun _(h:bT (ix b_0 at5)=some _)=>cO h) (fun r27=>?_)
  |with_reducible refine ae (fun _(h:bT (ix b_0 at5)=some _)=>cO h) (fun _=>rfl) (fun r27=>?_)
  |with_reducible refine ak (fun _(h:bT (ix b_0 at5)=some _)=>(by refine al ?_ (cO h);simp -implicitDefEqProofs only[go_sem,seval])) (fun r27=>?_)
  |with_reducible refine ae (fun _(h:bT (ix b_0 at5)=some _)=>(by refine al ?_ (cO h);simp -implicitDefEqProofs only[go_sem,seval])) (fun _=>rfl) (fun r27=>?_)
  |((fail_if_success (have _x:=r28));with_reducible refine ak (fun _(h:bJ (ix b_0 at5)=some _)=>bS h) (fun r28=>?_))
  |((fail_if_success (have _x:=r28));with_reducible refine ae (fun _(h:bJ (ix b_0 at5)=some _)=>bS h) (fun _=>rfl) (fun r28=>?_))
  |((fail_if_success (have _x:=r28));with_reducible refine ak (fun _(h:bJ (ix b_0 at5)=some _)=>(by refine al ?_ (bS h);simp -implicitDefEqProofs only[go_sem,seval])) (fun r28=>?_))
  |((fail_if_success (have _x:=r28));with_reducible refine ae (fun _(h:bJ (ix b_0 at5)=some _)=>(by refine al ?_ (bS h);simp -implicitDefEqProofs only[go_sem,seval])) (fun _=>rfl) (fun r28=>?_))
  |((fail_if_success (have _x:=r29));with_reducible refine ak (fun _(h:bJ (ix b_0 at5)=some _)=>bS h) (fun r29=>?_))
  |((fail_if_success (have _x:=r29));with_reducible refine ae (fun _(h:bJ (ix b_0 at5)=some _)=>bS h) (fun _=>rfl) (fun r29=>?_))
  |((fail_if_success (have _x:=r29));with_reducible refine ak (fun _(h:bJ (ix b_0 at5)=some _)=>(by refine al ?_ (bS h);simp -implicitDefEqProofs only[go_sem,seval])) (fun r29=>?_))
  |((fail_if_success (have _x:=r29));with_reducible refine ae (fun _(h:bJ (ix b_0 at5)=some _)=>(by refine al ?_ (bS h);simp -implicitDefEqProofs only[go_sem,seval])) (fun _=>rfl) (fun r29=>?_))
  |with_reducible refine ak (fun _(h:de last_2=some _)=>dB h) (fun r30=>?_)
  |with_reducible refine ae (fun _(h:de last_2=some _)=>dB h) (fun _=>rfl) (fun r30=>?_)
  |with_reducible refine ak (fun _(h:de last_2=some _)=>(by refine al ?_ (dB h);simp -implicitDefEqProofs only[go_sem,seval])) (fun r30=>?_)
  |with_reducible refine ae (fun _(h:de last_2=some _)=>(by refine al ?_ (dB h);simp -implicitDefEqProofs only[go_sem,seval])) (fun _=>rfl) (fun r30=>?_)
  |((with_reducible refine ft (live:=[(1,false),(9,false)]) (fun(digits20:(List Int))=>⟨[(1,.int .i64 (az (at5+1))),(9,.sl true 1 digits20.length (flat digits20))],[],s⟩) (fun J=>?_) ?_);rotate_left;rintro digits20)
  |((with_reducible refine dp (fun((out23,k24):(List UInt8)×Int)=>⟨[(1,.int .i64 (az (at5+1))),(9,.sl true 1 digits20.length (flat digits20)),(11,.sl true 1 out23.length (flat out23)),(12,.int .i64 k24)],[],s⟩) ?_ ?_);(first|exact rfl|simp -implicitDefEqProofs only[go_sem,seval]);rintro J ⟨out23,k24⟩)
  |((with_reducible refine ft (live:=[(1,false),(11,false)]) (fun(out22:(List UInt8))=>⟨[(1,.int .i64 (az (at5+1))),(11,.sl true 1 out22.length (flat out22))],[],s⟩) (fun J=>?_) ?_);rotate_left;rintro out22)
  |((with_reducible refine dh (live:=[(0,true),(1,false),(2,false),(9,false),(10,false)]) (fun(_:Unit)=>⟨[(0,.sl false 1 b_0.length (flat b_0)),(1,.int .i64 (az (at5+1))),(2,.bool last_2),(9,.sl true 1 digits6.length (flat digits6)),(10,.int .u8 (ix b_0 at5).toNat)],[],s⟩) (fun J=>?_) ?_);rotate_left;rintro _)
  |((with_reducible refine dp (fun((at5,digits6):Int×(List Int))=>⟨[(0,.sl false 1 b_0.length (flat b_0)),(1,.int .i64 at5),(2,.bool last_2),(9,.sl true 1 digits6.length (flat digits6))],[],s⟩) ?_ ?_);(first|exact rfl|simp -implicitDefEqProofs only[go_sem,seval]);rintro J ⟨at5,digits6⟩)
  |((with_reducible refine dh (live:=[(2,false)]) (fun(_:Unit)=>⟨[(2,.bool last_2)],[],s⟩) (fun J=>?_) ?_);rotate_left;rintro _)
  |simp -implicitDefEqProofs only[go_sem,seval]
  |(rw[Nat.add_comm 1];with_reducible exact bI))
theorem jP{b_0 at_1 last_2}{s:ab}{r:(List UInt8)×Int×Int}(h:fc b_0 at_1 last_2=some r):FE Go.Proofs.Tryz.prog 133 [.sl false 1 b_0.length (flat b_0),.int .i64 at_1,.bool last_2] s [.sl true 1 r.1.length (flat r.1),.int .i64 r.2.1,.int .i64 r.2.2] s:=BV ⟨r,h,rfl,rfl⟩
def ee(b_0:(List UInt8))(at_1:Int)(last_2:Bool):Option (UInt8×Int×Bool×Int):=
 if decide (at_1≥(b_0.length:Int))then
  cj (de last_2) fun r1=>
  some (0,0,false,r1)
 else
  bq (0≤at_1∧at_1<b_0.length)<|
  if((ix b_0 at_1).toNat:Int)==110 then
   some (10,az (at_1+1),true,0)
  else
   if((ix b_0 at_1).toNat:Int)==114 then
    some (13,az (at_1+1),true,0)
   else
    if((ix b_0 at_1).toNat:Int)==116 then
     some (9,az (at_1+1),true,0)
    else
     if((ix b_0 at_1).toNat:Int)==98 then
      some (8,az (at_1+1),true,0)
     else
      if((ix b_0 at_1).toNat:Int)==102 then
       some (12,az (at_1+1),true,0)
      else
       if((ix b_0 at_1).toNat:Int)==10 then
        some (0,az (at_1+1),false,0)
       else
        if((ix b_0 at_1).toNat:Int)==13 then
         if(decide (az (at_1+1)≥(b_0.length:Int)))&&(!last_2)then
          some (0,0,false,6)
         else
          bq ((decide (az (at_1+1)<(b_0.length:Int)))=true→0≤az (at_1+1)∧az (at_1+1)<b_0.length)<|
          if(decide (az (at_1+1)<(b_0.length:Int)))&&(((ix b_0 (az (at_1+1))).toNat:Int)==10)then
           some (0,az (at_1+2),false,0)
          else
           some (0,az (at_1+1),false,0)
        else
         if(decide (((ix b_0 at_1).toNat:Int)<48))||(decide (((ix b_0 at_1).toNat:Int)>55))then
          some (ix b_0 at_1,az (at_1+1),true,0)
         else
          jn (
           iter (fun((n7,k8):Int×Int)=>
            bq (((decide (k8<3))&&(decide (az (at_1+k8)<(b_0.length:Int))))=true→0≤az (at_1+k8)∧az (at_1+k8)<b_0.length)<|
            bq ((((decide (k8<3))&&(decide (az (at_1+k8)<(b_0.length:Int))))&&(decide (((ix b_0 (az (at_1+k8))).toNat:Int)≥48)))=true→0≤az (at_1+k8)∧az (at_1+k8)<b_0.length)<|
            if(((decide (k8<3))&&(decide (az (at_1+k8)<(b_0.length:Int))))&&(decide (((ix b_0 (az (at_1+k8))).toNat:Int)≥48)))&&(decide (((ix b_0 (az (at_1+k8))).toNat:Int)≤55))then
             bq (0≤az (at_1+k8)∧az (at_1+k8)<b_0.length)<|
             some (.inl (az ((az ((az (8*n7))+(az (((ix b_0 (az (at_1+k8))).toNat:Int))))) -48),az (k8+1)))
            else
             some (.inr (n7,k8))) (0,0)) fun((n5,k6):Int×Int)=>
          if((decide (k6<3))&&(decide (az (at_1+k6)≥(b_0.length:Int))))&&(!last_2)then
           some (0,0,false,6)
          else
           some (nh (Int.tmod n5 256),az (at_1+k6),true,0)
def qu:IC:=
 (aj [dT 6 (.int .u8 0),mi 7 0,dT 8 (.bool false),mi 9 0] [0,1,2]
 (.seq (aj [mv 13 1,mv 14 0,le 15 0 14,bt 16 .geq 13 15] [0,1,2,16]
 (.cond (.t 16) (aj [mv 17 2,c1 18 186 17,dT 6 (.int .u8 0),mi 7 0,dT 8 (.bool false),mv 9 18] [6,7,8,9]
 .ret)
 .skip))
 (aj [mv 19 0,mv 20 1,ia 21 [.int .u8 0] 19 20,ld 22 1 21,mv 10 22] [0,1,2,10]
 (.seq (.block 0 (aj [mv 24 10,bu 25 .eql 24 110,mv 23 25] [0,1,2,10,23]
 (.cond (.t 23) (aj [mv 26 1,bn 27 .add 26 1,dT 6 (.int .u8 10),mv 7 27,dT 8 (.bool true),mi 9 0] [6,7,8,9]
 .ret)
 (aj [mv 29 10,bu 30 .eql 29 114,mv 28 30] [0,1,2,10,28]
 (.cond (.t 28) (aj [mv 31 1,bn 32 .add 31 1,dT 6 (.int .u8 13),mv 7 32,dT 8 (.bool true),mi 9 0] [6,7,8,9]
 .ret)
 (aj [mv 34 10,bu 35 .eql 34 116,mv 33 35] [0,1,2,10,33]
 (.cond (.t 33) (aj [mv 36 1,bn 37 .add 36 1,dT 6 (.int .u8 9),mv 7 37,dT 8 (.bool true),mi 9 0] [6,7,8,9]
 .ret)
 (aj [mv 39 10,bu 40 .eql 39 98,mv 38 40] [0,1,2,10,38]
 (.cond (.t 38) (aj [mv 41 1,bn 42 .add 41 1,dT 6 (.int .u8 8),mv 7 42,dT 8 (.bool true),mi 9 0] [6,7,8,9]
 .ret)
 (aj [mv 44 10,bu 45 .eql 44 102,mv 43 45] [0,1,2,10,43]
 (.cond (.t 43) (aj [mv 46 1,bn 47 .add 46 1,dT 6 (.int .u8 12),mv 7 47,dT 8 (.bool true),mi 9 0] [6,7,8,9]
 .ret)
 (aj [mv 49 10,bu 50 .eql 49 10,mv 48 50] [0,1,2,10,48]
 (.cond (.t 48) (aj [mv 51 1,bn 52 .add 51 1,dT 6 (.int .u8 0),mv 7 52,dT 8 (.bool false),mi 9 0] [6,7,8,9]
 .ret)
 (aj [mv 54 10,bu 55 .eql 54 13,mv 53 55] [0,1,2,10,53]
 (.cond (.t 53) (.seq (aj [mv 56 1,bn 57 .add 56 1,mv 58 0,le 59 0 58,bt 60 .geq 57 59,mv 61 60,b6 62 2 61 true,cQ 63 61 true (.un .not (.t 62)),pf 64 61 63] [0,1,64]
 (.cond (.t 64) (aj [dT 6 (.int .u8 0),mi 7 0,dT 8 (.bool false),mi 9 6] [6,7,8,9]
 .ret)
 .skip))
 (.seq (aj [mv 65 1,bn 66 .add 65 1,mv 67 0,le 68 0 67,bt 69 .lss 66 68,mv 70 69,b6 71 0 70 true,b6 72 1 70 true,jz 73 70 true .add 72 1,cQ 74 70 true (.indexAddr [.int .u8 0] (.t 71) (.t 73)),lg 75 70 true 1 74,cQ 76 70 true (.bin .eql (.t 75) (.c (.int .u8 10))),pf 77 70 76] [1,77]
 (.cond (.t 77) (aj [mv 78 1,bn 79 .add 78 2,dT 6 (.int .u8 0),mv 7 79,dT 8 (.bool false),mi 9 0] [6,7,8,9]
 .ret)
 .skip))
 (aj [mv 80 1,bn 81 .add 80 1,dT 6 (.int .u8 0),mv 7 81,dT 8 (.bool false),mi 9 0] [6,7,8,9]
 .ret)))
 (aj [mv 83 10,bu 84 .lss 83 48,mv 85 84,b6 86 10 85 false,cQ 87 85 false (.bin .gtr (.t 86) (.c (.int .u8 55))),po 88 85 87,mv 82 88] [0,1,2,10,82]
 (.cond (.t 82) (aj [mv 89 10,mv 90 1,bn 91 .add 90 1,mv 6 89,mv 7 91,dT 8 (.bool true),mi 9 0] [6,7,8,9]
 .ret)
 .skip)))))))))))))))))
 (aj [mi 11 0] [0,1,2,11]
 (aj [mi 12 0] [0,1,2,11,12]
 (.join [(0,true),(1,false),(2,false),(11,false),(12,false)] (.block 1 (.loop [(0,true),(1,false),(2,false),(11,false),(12,false)] (.seq (aj [mv 92 12,bn 93 .lss 92 3,mv 94 93,b6 95 1 94 true,b6 96 12 94 true,Ap 97 94 true .add 95 96,b6 98 0 94 true,cQ 99 94 true (.len 0 (.t 98)),Ap 100 94 true .lss 97 99,pf 101 94 100,mv 102 101,b6 103 0 102 true,b6 104 1 102 true,b6 105 12 102 true,Ap 106 102 true .add 104 105,cQ 107 102 true (.indexAddr [.int .u8 0] (.t 103) (.t 106)),lg 108 102 true 1 107,cQ 109 102 true (.bin .geq (.t 108) (.c (.int .u8 48))),pf 110 102 109,mv 111 110,b6 112 0 111 true,b6 113 1 111 true,b6 114 12 111 true,Ap 115 111 true .add 113 114,cQ 116 111 true (.indexAddr [.int .u8 0] (.t 112) (.t 115)),lg 117 111 true 1 116,cQ 118 111 true (.bin .leq (.t 117) (.c (.int .u8 55))),pf 119 111 118] [0,1,2,11,12,119]
 (.cond (.t 119) .skip
 (.exit 1)))
 (.block 2 (aj [mv 120 11,i1 121 (.bin .mul (.c (.int .i64 8)) (.t 120)),mv 122 0,mv 123 1,mv 124 12,bt 125 .add 123 124,ia 126 [.int .u8 0] 122 125,ld 127 1 126,i1 128 (.dN .i64 (.t 127)),bt 129 .add 121 128,bn 130 .sub 129 48,mv 11 130] [0,1,2,11,12]
 (.cU none [mv 131 12,bn 132 .add 131 1,mv 12 132] [0,1,2,11,12]))))))
 (.seq (aj [mv 133 12,bn 134 .lss 133 3,mv 135 134,b6 136 1 135 true,b6 137 12 135 true,Ap 138 135 true .add 136 137,b6 139 0 135 true,cQ 140 135 true (.len 0 (.t 139)),Ap 141 135 true .geq 138 140,pf 142 135 141,mv 143 142,b6 144 2 143 true,cQ 145 143 true (.un .not (.t 144)),pf 146 143 145] [1,11,12,146]
 (.cond (.t 146) (aj [dT 6 (.int .u8 0),mi 7 0,dT 8 (.bool false),mi 9 6] [6,7,8,9]
 .ret)
 .skip))
 (aj [mv 147 11,bn 148 .rem 147 256,i1 149 (.dN .u8 (.t 148)),mv 150 1,mv 151 12,bt 152 .add 150 151,mv 6 149,mv 7 152,dT 8 (.bool true),mi 9 0] [6,7,8,9]
 .ret)))))))))
def pn:List bj:=[⟨6,true,none⟩,⟨7,true,none⟩,⟨8,true,none⟩,⟨9,true,none⟩]
theorem zh:bG Go.Proofs.Tryz.prog 187 153 pn qu=true:=by kernel_rfl
theorem zw{b_0 at_1 last_2}{s:ab}{Q:List AV→ab→Prop}:ok (ee b_0 at_1 last_2) (fun r=>Q [.int .u8 r.1.toNat,.int .i64 r.2.1,.bool r.2.2.1,.int .i64 r.2.2.2] s)→FN Go.Proofs.Tryz.prog 187 [.sl false 1 b_0.length (flat b_0),.int .i64 at_1,.bool last_2] s Q:=by
 intro h
 refine FN.of (ay mix) zh rfl (Nat.le_of_ble_eq_true rfl) ?_
 revert h
 rw[qu,pn,ee]
 repeat'(first
  |with_reducible exact bI
  |with_reducible refine aU ?_ ?_
  |with_reducible exact aV
  |with_reducible refine bN ?_
  |with_reducible refine ak (fun _(h:de last_2=some _)=>dB h) (fun r1=>?_)
  |with_reducible refine ae (fun _(h:de last_2=some _)=>dB h) (fun _=>rfl) (fun r1=>?_)
  |with_reducible refine ak (fun _(h:de last_2=some _)=>(by refine al ?_ (dB h);simp -implicitDefEqProofs only[go_sem,seval])) (fun r1=>?_)
  |with_reducible refine ae (fun _(h:de last_2=some _)=>(by refine al ?_ (dB h);simp -implicitDefEqProofs only[go_sem,seval])) (fun _=>rfl) (fun r1=>?_)
  |((with_reducible refine dp (fun((n7,k8):Int×Int)=>⟨[(0,.sl false 1 b_0.length (flat b_0)),(1,.int .i64 at_1),(2,.bool last_2),(11,.int .i64 n7),(12,.int .i64 k8)],[],s⟩) ?_ ?_);(first|exact rfl|simp -implicitDefEqProofs only[go_sem,seval]);rintro J ⟨n7,k8⟩)
  |((with_reducible refine ft (fun((n5,k6):Int×Int)=>⟨[(0,.sl false 1 b_0.length (flat b_0)),(1,.int .i64 at_1),(2,.bool last_2),(11,.int .i64 n5),(12,.int .i64 k6)],[],s⟩) (fun J=>?_) ?_);rotate_left;rintro⟨n5,k6⟩)
  |simp -implicitDefEqProofs only[go_sem,seval])
theorem jd{b_0 at_1 last_2}{s:ab}{r:UInt8×Int×Bool×Int}(h:ee b_0 at_1 last_2=some r):FE Go.Proofs.Tryz.prog 187 [.sl false 1 b_0.length (flat b_0),.int .i64 at_1,.bool last_2] s [.int .u8 r.1.toNat,.int .i64 r.2.1,.bool r.2.2.1,.int .i64 r.2.2.2] s:=zw ⟨r,h,rfl,rfl⟩
def fU(b_0:(List UInt8))(at_1:Int)(last_2:Bool):Option ((List UInt8)×Int×Int):=
 xR (
  oD (
   iter (fun((at5,out6,deep7):Int×(List UInt8)×Int)=>
    if decide (at5<(b_0.length:Int))then
     bq (0≤at5∧at5<b_0.length)<|
     xR (
      if((ix b_0 at5).toNat:Int)==92 then
       cj (ee b_0 (az (at5+1)) last_2) fun r26=>
       if r26.2.2.2 !=0 then
        some (.inr (.inr (([]:List UInt8),(0:Int),r26.2.2.2)))
       else
        jn (
         if r26.2.2.1 then
          bq ((out6.length+[r26.1].length)*1≤room)<|
          some (out6++[r26.1])
         else
          some out6) fun(out29:(List UInt8))=>
        some (.inr (.inl (r26.2.1,out29)))
      else
       if((ix b_0 at5).toNat:Int)==13 then
        if(decide (az (at5+1)≥(b_0.length:Int)))&&(!last_2)then
         some (.inr (.inr (([]:List UInt8),(0:Int),(6:Int))))
        else
         jn (
          bq ((decide (az (at5+1)<(b_0.length:Int)))=true→0≤az (at5+1)∧az (at5+1)<b_0.length)<|
          if(decide (az (at5+1)<(b_0.length:Int)))&&(((ix b_0 (az (at5+1))).toNat:Int)==10)then
           some (az (at5+1))
          else
           some at5) fun(at33:Int)=>
         some (.inl (at33,deep7,10))
       else
        if((ix b_0 at5).toNat:Int)==40 then
         some (.inl (at5,az (deep7+1),ix b_0 at5))
        else
         if((ix b_0 at5).toNat:Int)==41 then
          some (.inl (at5,az (deep7 -1),ix b_0 at5))
         else
          some (.inl (at5,deep7,ix b_0 at5))) (fun((at13,deep16,c17):Int×Int×UInt8)=>
      if deep16==0 then
       some (.inr (.inr (out6,az (at13+1),(0:Int))))
      else
       bq ((out6.length+[c17].length)*1≤room)<|
       some (.inl (az (at13+1),out6++[c17],deep16)))
     (j6 (fun((at19,out21):Int×(List UInt8))=>some (.inl (at19,out21,deep7))) (fun((t23,t24,t25):(List UInt8)×Int×Int)=>some (.inr (.inr (t23,t24,t25)))))
    else
     some (.inr (.inl ()))) (at_1,([]:List UInt8),1)) (fun(_:Unit)=>
   some (.inl ()))
  (fun((t9,t10,t11):(List UInt8)×Int×Int)=>some (.inr (t9,t10,t11)))) (fun(_:Unit)=>
  cj (de last_2) fun r37=>
  some (([]:List UInt8),0,r37))
 (fun((t2,t3,t4):(List UInt8)×Int×Int)=>some (t2,t3,t4))
def tZ:IC:=
 (aj [i1 6 (.iT true (.c (.sl true 1 0 []))),mi 7 0,mi 8 0] [0,1,2]
 (aj [i1 9 (.iT true (.c (.sl true 1 0 [])))] [0,1,2,9]
 (aj [mi 10 1] [0,1,2,9,10]
 (.join [(2,false)] (.block 0 (.loop [(0,true),(1,false),(2,false),(9,false),(10,false)] (.seq (aj [mv 16 1,mv 17 0,le 18 0 17,bt 19 .lss 16 18] [0,1,2,9,10,19]
 (.cond (.t 19) .skip
 (.exit 0)))
 (.block 1 (aj [mv 20 0,mv 21 1,ia 22 [.int .u8 0] 20 21,ld 23 1 22,mv 11 23] [0,1,2,9,10,11]
 (.join [(0,true),(1,false),(2,false),(9,false),(10,false),(11,false)] (.block 2 (aj [mv 25 11,bu 26 .eql 25 92,mv 24 26] [0,1,2,9,10,11,24]
 (.cond (.t 24) (aj [mv 28 0,mv 29 1,bn 30 .add 29 1,mv 31 2,c3 32 187 28 30 31,lj 27 32,ex 33 27 0,ex 34 27 1,ex 35 27 2,ex 36 27 3,mv 12 33,mv 13 34,mv 14 35,mv 15 36] [0,2,9,10,12,13,14,15]
 (.seq (aj [mv 37 15,bn 38 .neq 37 0] [0,2,9,10,12,13,14,15,38]
 (.cond (.t 38) (aj [mv 39 15,i1 6 (.iT true (.c (.sl true 1 0 []))),mi 7 0,mv 8 39] [6,7,8]
 .ret)
 .skip))
 (.join [(0,true),(2,false),(9,false),(10,false),(13,false)] (aj [mv 40 14] [0,2,9,10,12,13,40]
 (.cond (.t 40) (.cU none [mt 41 9,mv 42 12,i1 43 (.b5 1 1 [.int .u8 0] [(0,1,(.t 42))]),NC 44 1 1 41 43,mt 9 44] [0,2,9,10,13])
 .skip))
 (aj [mv 45 13,mv 1 45] [0,1,2,9,10]
 (.exit 1)))))
 (aj [mv 47 11,bu 48 .eql 47 13,mv 46 48] [0,1,2,9,10,11,46]
 (.cond (.t 46) (.seq (aj [mv 49 1,bn 50 .add 49 1,mv 51 0,le 52 0 51,bt 53 .geq 50 52,mv 54 53,b6 55 2 54 true,cQ 56 54 true (.un .not (.t 55)),pf 57 54 56] [0,1,2,9,10,57]
 (.cond (.t 57) (aj [i1 6 (.iT true (.c (.sl true 1 0 []))),mi 7 0,mi 8 6] [6,7,8]
 .ret)
 .skip))
 (.join [(0,true),(1,false),(2,false),(9,false),(10,false)] (aj [mv 58 1,bn 59 .add 58 1,mv 60 0,le 61 0 60,bt 62 .lss 59 61,mv 63 62,b6 64 0 63 true,b6 65 1 63 true,jz 66 63 true .add 65 1,cQ 67 63 true (.indexAddr [.int .u8 0] (.t 64) (.t 66)),lg 68 63 true 1 67,cQ 69 63 true (.bin .eql (.t 68) (.c (.int .u8 10))),pf 70 63 69] [0,1,2,9,10,70]
 (.cond (.t 70) (.cU none [mv 71 1,bn 72 .add 71 1,mv 1 72] [0,1,2,9,10])
 .skip))
 (.cU none [dT 11 (.int .u8 10)] [0,1,2,9,10,11])))
 (aj [mv 74 11,bu 75 .eql 74 40,mv 73 75] [0,1,2,9,10,11,73]
 (.cond (.t 73) (.cU none [mv 76 10,bn 77 .add 76 1,mv 10 77] [0,1,2,9,10,11])
 (aj [mv 79 11,bu 80 .eql 79 41,mv 78 80] [0,1,2,9,10,11,78]
 (.cond (.t 78) (.cU none [mv 81 10,bn 82 .sub 81 1,mv 10 82] [0,1,2,9,10,11])
 .skip)))))))))
 (aj [mv 83 1,bn 84 .add 83 1,mv 1 84] [0,1,2,9,10,11]
 (.seq (aj [mv 85 10,bn 86 .eql 85 0] [0,1,2,9,10,11,86]
 (.cond (.t 86) (aj [mt 87 9,mv 88 1,mt 6 87,mv 7 88,mi 8 0] [6,7,8]
 .ret)
 .skip))
 (.cU none [mt 89 9,mv 90 11,i1 91 (.b5 1 1 [.int .u8 0] [(0,1,(.t 90))]),NC 92 1 1 89 91,mt 9 92] [0,1,2,9,10])))))))))
 (aj [mv 93 2,c1 94 186 93,i1 6 (.iT true (.c (.sl true 1 0 []))),mi 7 0,mv 8 94] [6,7,8]
 .ret)))))
def sG:List bj:=[⟨6,true,none⟩,⟨7,true,none⟩,⟨8,true,none⟩]
theorem CV:bG Go.Proofs.Tryz.prog 134 95 sG tZ=true:=by kernel_rfl
theorem Df{b_0 at_1 last_2}{s:ab}{Q:List AV→ab→Prop}:ok (fU b_0 at_1 last_2) (fun r=>Q [.sl true 1 r.1.length (flat r.1),.int .i64 r.2.1,.int .i64 r.2.2] s)→FN Go.Proofs.Tryz.prog 134 [.sl false 1 b_0.length (flat b_0),.int .i64 at_1,.bool last_2] s Q:=by
 intro h
 refine FN.of (ay mix) CV rfl (Nat.le_of_ble_eq_true rfl) ?_
 revert h
 rw[tZ,sG,fU]
 repeat'(first
  |with_reducible exact bI
  |with_reducible refine aU ?_ ?_
  |with_reducible exact aV
  |with_reducible refine bN ?_
  |with_reducible refine ak (fun _(h:ee b_0 (az (at5+1)) last_2=some _)=>jd h) (fun r26=>?_)
  |with_reducible refine ae (fun _(h:ee b_0 (az (at5+1)) last_2=some _)=>jd h) (fun _=>rfl) (fun r26=>?_)
  |with_reducible refine ak (fun _(h:ee b_0 (az (at5+1)) last_2=some _)=>(by refine al ?_ (jd h);simp -implicitDefEqProofs only[go_sem,seval])) (fun r26=>?_)
  |with_reducible refine ae (fun _(h:ee b_0 (az (at5+1)) last_2=some _)=>(by refine al ?_ (jd h);simp -implicitDefEqProofs only[go_sem,seval])) (fun _=>rfl) (fun r26=>?_)
  |with_reducible refine ak (fun _(h:de last_2=some _)=>dB h) (fun r37=>?_)
  |with_reducible refine ae (fun _(h:de last_2=some _)=>dB h) (fun _=>rfl) (fun r37=>?_)
  |with_reducible refine ak (fun _(h:de last_2=some _)=>(by refine al ?_ (dB h);simp -implicitDefEqProofs only[go_sem,seval])) (fun r37=>?_)
  |with_reducible refine ae (fun _(h:de last_2=some _)=>(by refine al ?_ (dB h);simp -implicitDefEqProofs only[go_sem,seval])) (fun _=>rfl) (fun r37=>?_)
  |((with_reducible refine ft (live:=[(0,true),(2,false),(9,false),(10,false),(13,false)]) (fun(out29:(List UInt8))=>⟨[(0,.sl false 1 b_0.length (flat b_0)),(2,.bool last_2),(9,.sl true 1 out29.length (flat out29)),(10,.int .i64 deep7),(13,.int .i64 r26.2.1)],[],s⟩) (fun J=>?_) ?_);rotate_left;rintro out29)
  |((with_reducible refine ft (live:=[(0,true),(1,false),(2,false),(9,false),(10,false)]) (fun(at33:Int)=>⟨[(0,.sl false 1 b_0.length (flat b_0)),(1,.int .i64 at33),(2,.bool last_2),(9,.sl true 1 out6.length (flat out6)),(10,.int .i64 deep7)],[],s⟩) (fun J=>?_) ?_);rotate_left;rintro at33)
  |((with_reducible refine dh (live:=[(0,true),(1,false),(2,false),(9,false),(10,false),(11,false)]) (fun((at13,deep16,c17):Int×Int×UInt8)=>⟨[(0,.sl false 1 b_0.length (flat b_0)),(1,.int .i64 at13),(2,.bool last_2),(9,.sl true 1 out6.length (flat out6)),(10,.int .i64 deep16),(11,.int .u8 c17.toNat)],[],s⟩) (fun J=>?_) ?_);rotate_left;rintro⟨at13,deep16,c17⟩)
  |((with_reducible refine dp (fun((at5,out6,deep7):Int×(List UInt8)×Int)=>⟨[(0,.sl false 1 b_0.length (flat b_0)),(1,.int .i64 at5),(2,.bool last_2),(9,.sl true 1 out6.length (flat out6)),(10,.int .i64 deep7)],[],s⟩) ?_ ?_);(first|exact rfl|simp -implicitDefEqProofs only[go_sem,seval]);rintro J ⟨at5,out6,deep7⟩)
  |((with_reducible refine dh (live:=[(2,false)]) (fun(_:Unit)=>⟨[(2,.bool last_2)],[],s⟩) (fun J=>?_) ?_);rotate_left;rintro _)
  |simp -implicitDefEqProofs only[go_sem,seval]
  |(rw[Nat.add_comm 1];with_reducible exact bI))
theorem kI{b_0 at_1 last_2}{s:ab}{r:(List UInt8)×Int×Int}(h:fU b_0 at_1 last_2=some r):FE Go.Proofs.Tryz.prog 134 [.sl false 1 b_0.length (flat b_0),.int .i64 at_1,.bool last_2] s [.sl true 1 r.1.length (flat r.1),.int .i64 r.2.1,.int .i64 r.2.2] s:=Df ⟨r,h,rfl,rfl⟩
def fo(w_0:(List UInt8)):Option (aa×Int):=
 xR (
  oD (
   iter (fun((out5,k6):(List UInt8)×Int)=>
    if decide (k6<(w_0.length:Int))then
     xR (
      bq (0≤k6∧k6<w_0.length)<|
      if((ix w_0 k6).toNat:Int)!=35 then
       bq (0≤k6∧k6<w_0.length)<|
       bq ((out5.length+[ix w_0 k6].length)*1≤room)<|
       some (.inl (out5++[ix w_0 k6],k6))
      else
       bq ((!(decide (az (k6+2)≥(w_0.length:Int))))=true→0≤az (k6+1)∧az (k6+1)<w_0.length)<|
       cj (fy (!(decide (az (k6+2)≥(w_0.length:Int)))) 0 (bJ (ix w_0 (az (k6+1))))) fun r17=>
       bq ((!((decide (az (k6+2)≥(w_0.length:Int)))||(decide (r17<0))))=true→0≤az (k6+2)∧az (k6+2)<w_0.length)<|
       cj (fy (!((decide (az (k6+2)≥(w_0.length:Int)))||(decide (r17<0)))) 0 (bJ (ix w_0 (az (k6+2))))) fun r18=>
       if((decide (az (k6+2)≥(w_0.length:Int)))||(decide (r17<0)))||(decide (r18<0))then
        some (.inr (17:Int))
       else
        bq (0≤az (k6+1)∧az (k6+1)<w_0.length)<|
        cj (bJ (ix w_0 (az (k6+1)))) fun r19=>
        bq (0≤az (k6+2)∧az (k6+2)<w_0.length)<|
        cj (bJ (ix w_0 (az (k6+2)))) fun r20=>
        bq ((out5.length+[nh (az ((az (16*r19))+r20))].length)*1≤room)<|
        some (.inl (out5++[nh (az ((az (16*r19))+r20))],az (k6+2)))) (fun((out13,k14):(List UInt8)×Int)=>
      some (.inl (out13,az (k14+1))))
     (fun(t16:Int)=>some (.inr (.inr t16)))
    else
     some (.inr (.inl out5))) (([]:List UInt8),0)) (fun(out8:(List UInt8))=>
   some (.inl out8))
  (fun(t10:Int)=>some (.inr t10))) (fun(out2:(List UInt8))=>
  xR (
   oD (
    iter (fun(k25:Int)=>
     if decide (k25<(out2.length:Int))then
      bq (0≤k25∧k25<out2.length)<|
      if((ix out2 k25).toNat:Int)==0 then
       some (.inr (.inr (17:Int)))
      else
       some (.inl (az (k25+1)))
     else
      some (.inr (.inl ()))) 0) (fun(_:Unit)=>
    some (.inl ()))
   (fun(t29:Int)=>some (.inr t29))) (fun(_:Unit)=>
   if decide ((out2.length:Int)>127)then
    some ((aa.mk 0 0 (aL.mk []) ([]:List aa)),17)
   else
    some ((aa.mk 5 0 (aL.mk out2) ([]:List aa)),0))
  (fun(t24:Int)=>some ((aa.mk 0 0 (aL.mk []) ([]:List aa)),t24)))
 (fun(t4:Int)=>some ((aa.mk 0 0 (aL.mk []) ([]:List aa)),t4))
def tW:IC:=
 (aj [i1 2 (.aQ iC),mi 3 0] [0,2]
 (aj [i1 4 (.iT true (.c (.sl true 1 0 [])))] [0,2,4]
 (.join [(2,false),(4,false)] (aj [mi 5 0] [0,2,4,5]
 (.block 0 (.loop [(0,true),(2,false),(4,false),(5,false)] (.seq (aj [mv 7 5,mv 8 0,le 9 0 8,bt 10 .lss 7 9] [0,2,4,5,10]
 (.cond (.t 10) .skip
 (.exit 0)))
 (.join [(0,true),(2,false),(4,false),(5,false)] (.block 1 (.seq (aj [mv 13 0,mv 14 5,ia 15 [.int .u8 0] 13 14,ld 16 1 15,bu 17 .neq 16 35] [0,2,4,5,17]
 (.cond (.t 17) (aj [mt 18 4,mv 19 0,mv 20 5,ia 21 [.int .u8 0] 19 20,ld 22 1 21,i1 23 (.b5 1 1 [.int .u8 0] [(0,1,(.t 22))]),NC 24 1 1 18 23,mt 4 24] [0,2,4,5]
 (.exit 1))
 .skip))
 (.seq (.seq (.cU (some 21) [mv 25 5,bn 26 .add 25 2,mv 27 0,le 28 0 27,bt 29 .geq 26 28,mv 30 29,b6 31 0 30 false,b6 32 5 30 false,jz 33 30 false .add 32 1,cQ 34 30 false (.indexAddr [.int .u8 0] (.t 31) (.t 33)),lg 35 30 false 1 34,FC 36 30 false 185 35,jz 37 30 false .lss 36 0,po 38 30 37,mv 39 38,b6 40 0 39 false,b6 41 5 39 false,jz 42 39 false .add 41 2,cQ 43 39 false (.indexAddr [.int .u8 0] (.t 40) (.t 42)),lg 44 39 false 1 43,FC 45 39 false 185 44,jz 46 39 false .lss 45 0,po 47 39 46] [0,2,4,5,47])
 (.cond (.t 47) (aj [i1 48 (.build iC []),st 4 2 48,mi 3 17] [2,3]
 .ret)
 .skip))
 (.seq (.cU (some 17) [mt 49 4,mv 50 0,mv 51 5,bn 52 .add 51 1,ia 53 [.int .u8 0] 50 52,ld 54 1 53,c1 55 185 54,i1 56 (.bin .mul (.c (.int .i64 16)) (.t 55)),mv 57 0,mv 58 5,bn 59 .add 58 2,ia 60 [.int .u8 0] 57 59,ld 61 1 60,c1 62 185 61,bt 63 .add 56 62,i1 64 (.dN .u8 (.t 63)),i1 65 (.b5 1 1 [.int .u8 0] [(0,1,(.t 64))]),NC 66 1 1 49 65,mt 4 66] [0,2,4,5])
 (.cU none [mv 67 5,bn 68 .add 67 2,mv 5 68] [0,2,4,5])))))
 (.cU none [mv 11 5,bn 12 .add 11 1,mv 5 12] [0,2,4,5]))))))
 (.join [(2,false),(4,false)] (aj [mi 6 0] [2,4,6]
 (.block 2 (.loop [(2,false),(4,false),(6,false)] (.seq (aj [mv 69 6,mv 70 4,le 71 0 70,bt 72 .lss 69 71] [2,4,6,72]
 (.cond (.t 72) .skip
 (.exit 2)))
 (.seq (.block 3 (aj [mv 75 4,mv 76 6,ia 77 [.int .u8 0] 75 76,ld 78 1 77,bu 79 .eql 78 0] [2,4,6,79]
 (.cond (.t 79) (aj [i1 80 (.build iC []),st 4 2 80,mi 3 17] [2,3]
 .ret)
 .skip)))
 (.cU none [mv 73 6,bn 74 .add 73 1,mv 6 74] [2,4,6]))))))
 (.seq (aj [mv 81 4,le 82 0 81,bn 83 .gtr 82 127] [2,4,83]
 (.cond (.t 83) (aj [i1 84 (.build iC []),st 4 2 84,mi 3 17] [2,3]
 .ret)
 .skip))
 (aj [mt 85 4,i1 86 (.fA (.t 85)),i1 87 (.build iC [(0,1,(.c (.int .i64 5))),(2,1,(.t 86))]),st 4 2 87,mi 3 0] [2,3]
 .ret))))))
def sD:List bj:=[⟨2,false,some (4,true)⟩,⟨3,true,none⟩]
theorem CS:bG Go.Proofs.Tryz.prog 135 88 sD tW=true:=by kernel_rfl
theorem Dc{w_0}{s:ab}{Q:List AV→ab→Prop}:ok (fo w_0) (fun r=>Q [.agg [.int .i64 r.1.Kind,.int .i64 r.1.N,.str r.1.S.b,.sl false 4 r.1.L.length (flat r.1.L)],.int .i64 r.2] s)→FN Go.Proofs.Tryz.prog 135 [.sl false 1 w_0.length (flat w_0)] s Q:=by
 intro h
 refine FN.of (ay mix) CS rfl (Nat.le_of_ble_eq_true rfl) ?_
 revert h
 rw[tW,sD,fo]
 repeat'(first
  |with_reducible exact bI
  |with_reducible refine aU ?_ ?_
  |with_reducible exact aV
  |with_reducible refine bN ?_
  |((fail_if_success (have _x:=r17));with_reducible refine bM rfl (fun _(h:bJ (ix w_0 (az (k6+1)))=some _)=>bS h) (fun _=>rfl) (fun r17=>?_))
  |((fail_if_success (have _x:=r17));with_reducible refine bM rfl (fun _(h:bJ (ix w_0 (az (k6+1)))=some _)=>(by refine al ?_ (bS h);simp -implicitDefEqProofs only[go_sem,seval])) (fun _=>rfl) (fun r17=>?_))
  |((fail_if_success (have _x:=r18));with_reducible refine bM rfl (fun _(h:bJ (ix w_0 (az (k6+2)))=some _)=>bS h) (fun _=>rfl) (fun r18=>?_))
  |((fail_if_success (have _x:=r18));with_reducible refine bM rfl (fun _(h:bJ (ix w_0 (az (k6+2)))=some _)=>(by refine al ?_ (bS h);simp -implicitDefEqProofs only[go_sem,seval])) (fun _=>rfl) (fun r18=>?_))
  |((fail_if_success (have _x:=r19));with_reducible refine ak (fun _(h:bJ (ix w_0 (az (k6+1)))=some _)=>bS h) (fun r19=>?_))
  |((fail_if_success (have _x:=r19));with_reducible refine ae (fun _(h:bJ (ix w_0 (az (k6+1)))=some _)=>bS h) (fun _=>rfl) (fun r19=>?_))
  |((fail_if_success (have _x:=r19));with_reducible refine ak (fun _(h:bJ (ix w_0 (az (k6+1)))=some _)=>(by refine al ?_ (bS h);simp -implicitDefEqProofs only[go_sem,seval])) (fun r19=>?_))
  |((fail_if_success (have _x:=r19));with_reducible refine ae (fun _(h:bJ (ix w_0 (az (k6+1)))=some _)=>(by refine al ?_ (bS h);simp -implicitDefEqProofs only[go_sem,seval])) (fun _=>rfl) (fun r19=>?_))
  |((fail_if_success (have _x:=r20));with_reducible refine ak (fun _(h:bJ (ix w_0 (az (k6+2)))=some _)=>bS h) (fun r20=>?_))
  |((fail_if_success (have _x:=r20));with_reducible refine ae (fun _(h:bJ (ix w_0 (az (k6+2)))=some _)=>bS h) (fun _=>rfl) (fun r20=>?_))
  |((fail_if_success (have _x:=r20));with_reducible refine ak (fun _(h:bJ (ix w_0 (az (k6+2)))=some _)=>(by refine al ?_ (bS h);simp -implicitDefEqProofs only[go_sem,seval])) (fun r20=>?_))
  |((fail_if_success (have _x:=r20));with_reducible refine ae (fun _(h:bJ (ix w_0 (az (k6+2)))=some _)=>(by refine al ?_ (bS h);simp -implicitDefEqProofs only[go_sem,seval])) (fun _=>rfl) (fun r20=>?_))
  |((with_reducible refine dh (live:=[(0,true),(2,false),(4,false),(5,false)]) (fun((out13,k14):(List UInt8)×Int)=>⟨[(0,.sl false 1 w_0.length (flat w_0)),(2,.loc [.int .i64 0,.int .i64 0,.str (aL.mk []).b,.sl true 4 0 []]),(4,.sl true 1 out13.length (flat out13)),(5,.int .i64 k14)],[],s⟩) (fun J=>?_) ?_);rotate_left;rintro⟨out13,k14⟩)
  |((with_reducible refine dp (fun((out5,k6):(List UInt8)×Int)=>⟨[(0,.sl false 1 w_0.length (flat w_0)),(2,.loc [.int .i64 0,.int .i64 0,.str (aL.mk []).b,.sl true 4 0 []]),(4,.sl true 1 out5.length (flat out5)),(5,.int .i64 k6)],[],s⟩) ?_ ?_);(first|exact rfl|simp -implicitDefEqProofs only[go_sem,seval]);rintro J ⟨out5,k6⟩)
  |((with_reducible refine dh (live:=[(2,false),(4,false)]) (fun(out2:(List UInt8))=>⟨[(2,.loc [.int .i64 0,.int .i64 0,.str (aL.mk []).b,.sl true 4 0 []]),(4,.sl true 1 out2.length (flat out2))],[],s⟩) (fun J=>?_) ?_);rotate_left;rintro out2)
  |((with_reducible refine dp (fun(k25:Int)=>⟨[(2,.loc [.int .i64 0,.int .i64 0,.str (aL.mk []).b,.sl true 4 0 []]),(4,.sl true 1 out2.length (flat out2)),(6,.int .i64 k25)],[],s⟩) ?_ ?_);(first|exact rfl|simp -implicitDefEqProofs only[go_sem,seval]);rintro J k25)
  |((with_reducible refine dh (live:=[(2,false),(4,false)]) (fun(_:Unit)=>⟨[(2,.loc [.int .i64 0,.int .i64 0,.str (aL.mk []).b,.sl true 4 0 []]),(4,.sl true 1 out2.length (flat out2))],[],s⟩) (fun J=>?_) ?_);rotate_left;rintro _)
  |simp -implicitDefEqProofs only[go_sem,seval]
  |(rw[Nat.add_comm 1];with_reducible exact bI))
theorem kG{w_0}{s:ab}{r:aa×Int}(h:fo w_0=some r):FE Go.Proofs.Tryz.prog 135 [.sl false 1 w_0.length (flat w_0)] s [.agg [.int .i64 r.1.Kind,.int .i64 r.1.N,.str r.1.S.b,.sl false 4 r.1.L.length (flat r.1.L)],.int .i64 r.2] s:=Dc ⟨r,h,rfl,rfl⟩
def dV(s_0:aL):Option (aa×Int):=
 jn (
  bq ((decide ((s_0.b.length:Int)>0))=true→0≤(0:Int)∧(0:Int)<s_0.b.length)<|
  bq ((!(((ix s_0.b 0).toNat:Int)==43))=true→0≤(0:Int)∧(0:Int)<s_0.b.length)<|
  if(decide ((s_0.b.length:Int)>0))&&((((ix s_0.b 0).toNat:Int)==43)||(((ix s_0.b 0).toNat:Int)==45))then
   some 1
  else
   some 0) fun(at3:Int)=>
 xR (
  oD (
   iter (fun((n14,parts15,digits16,point17,over18,k19):Int×Int×Int×Int×Bool×Int)=>
    if decide (k19<(s_0.b.length:Int))then
     xR (
      bq (0≤k19∧k19<s_0.b.length)<|
      if(((ix s_0.b k19).toNat:Int)==46)&&(decide (point17<0))then
       some (.inl (n14,parts15,digits16,k19,over18))
      else
       bq (0≤k19∧k19<s_0.b.length)<|
       bq ((decide (((ix s_0.b k19).toNat:Int)≥48))=true→0≤k19∧k19<s_0.b.length)<|
       if((decide (((ix s_0.b k19).toNat:Int)≥48))&&(decide (((ix s_0.b k19).toNat:Int)≤57)))&&(decide (point17<0))then
        jn (
         if !over18 then
          bq (0≤k19∧k19<s_0.b.length)<|
          some (az ((az ((az (10*n14))+(az (((ix s_0.b k19).toNat:Int))))) -48))
         else
          some n14) fun(n44:Int)=>
        some (.inl (n44,parts15,az (digits16+1),point17,over18||(decide (n44>2147483647))))
       else
        bq (0≤k19∧k19<s_0.b.length)<|
        bq ((decide (((ix s_0.b k19).toNat:Int)≥48))=true→0≤k19∧k19<s_0.b.length)<|
        if(decide (((ix s_0.b k19).toNat:Int)≥48))&&(decide (((ix s_0.b k19).toNat:Int)≤57))then
         jn (
          iter (fun((by60,j61):Int×Int)=>
           if(decide (j61<az (k19 -point17)))&&(decide (j61<7))then
            some (.inl (az (Int.tdiv by60 10),az (j61+1)))
           else
            some (.inr by60)) (100000,1)) fun(by59:Int)=>
         bq (0≤k19∧k19<s_0.b.length)<|
         some (.inl (n14,az (parts15+(az (by59*(az ((az (((ix s_0.b k19).toNat:Int))) -48))))),az (digits16+1),point17,over18))
        else
         some (.inr (11:Int))) (fun((n33,parts34,digits35,point36,over37):Int×Int×Int×Int×Bool)=>
      some (.inl (n33,parts34,digits35,point36,over37,az (k19+1))))
     (fun(t40:Int)=>some (.inr (.inr t40)))
    else
     some (.inr (.inl (n14,parts15,digits16,point17,over18)))) (0,0,0,(-1),false,at3)) (fun((n23,parts24,digits25,point26,over27):Int×Int×Int×Int×Bool)=>
   some (.inl (n23,parts24,digits25,point26,over27)))
  (fun(t29:Int)=>some (.inr t29))) (fun((n7,parts8,digits9,point10,over11):Int×Int×Int×Int×Bool)=>
  if digits9==0 then
   some ((aa.mk 0 0 (aL.mk []) ([]:List aa)),11)
  else
   if over11||(((decide (point10≥0))&&(n7==2147483647))&&(decide (parts8>0)))then
    some ((aa.mk 0 0 (aL.mk []) ([]:List aa)),5)
   else
    jn (
     if decide (point10≥0)then
      some (aa.mk 3 (az ((az (1000000*n7))+parts8)) (aL.mk []) ([]:List aa))
     else
      some (aa.mk 2 n7 (aL.mk []) ([]:List aa))) fun(v75:aa)=>
    jn (
     bq ((at3==1)=true→0≤(0:Int)∧(0:Int)<s_0.b.length)<|
     if(at3==1)&&(((ix s_0.b 0).toNat:Int)==45)then
      some (aa.mk v75.Kind (az (0 -v75.N)) v75.S v75.L)
     else
      some v75) fun(v77:aa)=>
    some (v77,0))
 (fun(t13:Int)=>some ((aa.mk 0 0 (aL.mk []) ([]:List aa)),t13))
def rP:IC:=
 (aj [i1 2 (.aQ iC),mi 3 0] [0,2]
 (aj [mi 4 0] [0,2,4]
 (.join [(0,false),(2,false),(4,false)] (aj [mv 14 0,le 15 1 14,bn 16 .gtr 15 0,mv 17 16,b6 18 0 17 true,cQ 19 17 true (.dJ (.t 18) (.c (.int .i64 0))),cQ 20 17 true (.bin .eql (.t 19) (.c (.int .u8 43))),b6 21 20 17 true,b6 22 0 21 false,cQ 23 21 false (.dJ (.t 22) (.c (.int .i64 0))),cQ 24 21 false (.bin .eql (.t 23) (.c (.int .u8 45))),cQ 25 17 true (.pick (.t 21) (.c (.bool true)) (.t 24)),pf 26 17 25] [0,2,4,26]
 (.cond (.t 26) (.cU none [mi 4 1] [0,2,4])
 .skip))
 (aj [mi 5 0] [0,2,4,5]
 (aj [mi 6 0] [0,2,4,5,6]
 (aj [mi 7 0] [0,2,4,5,6,7]
 (aj [mi 8 (-1)] [0,2,4,5,6,7,8]
 (aj [dT 9 (.bool false)] [0,2,4,5,6,7,8,9]
 (.join [(0,false),(2,false),(4,false),(5,false),(6,false),(7,false),(8,false),(9,false)] (aj [mv 27 4,mv 10 27] [0,2,4,5,6,7,8,9,10]
 (.block 0 (.loop [(0,false),(2,false),(4,false),(5,false),(6,false),(7,false),(8,false),(9,false),(10,false)] (.seq (aj [mv 28 10,mv 29 0,le 30 1 29,bt 31 .lss 28 30] [0,2,4,5,6,7,8,9,10,31]
 (.cond (.t 31) .skip
 (.exit 0)))
 (.join [(0,false),(2,false),(4,false),(5,false),(6,false),(7,false),(8,false),(9,false),(10,false)] (.block 1 (.block 2 (aj [mv 36 0,mv 37 10,i1 38 (.dJ (.t 36) (.t 37)),bu 39 .eql 38 46,mv 40 39,b6 41 8 40 true,jz 42 40 true .lss 41 0,pf 43 40 42,mv 35 43] [0,2,4,5,6,7,8,9,10,35]
 (.cond (.t 35) (.cU none [mv 44 10,mv 8 44] [0,2,4,5,6,7,8,9,10])
 (aj [mv 46 0,mv 47 10,i1 48 (.dJ (.t 46) (.t 47)),bu 49 .geq 48 48,mv 50 49,b6 51 0 50 true,b6 52 10 50 true,cQ 53 50 true (.dJ (.t 51) (.t 52)),cQ 54 50 true (.bin .leq (.t 53) (.c (.int .u8 57))),pf 55 50 54,mv 56 55,b6 57 8 56 true,jz 58 56 true .lss 57 0,pf 59 56 58,mv 45 59] [0,2,4,5,6,7,8,9,10,45]
 (.cond (.t 45) (aj [mv 60 7,bn 61 .add 60 1,mv 7 61] [0,2,4,5,6,7,8,9,10]
 (.join [(0,false),(2,false),(4,false),(5,false),(6,false),(7,false),(8,false),(9,false),(10,false)] (aj [mv 62 9,no 63 62] [0,2,4,5,6,7,8,9,10,63]
 (.cond (.t 63) (.cU none [mv 64 5,i1 65 (.bin .mul (.c (.int .i64 10)) (.t 64)),mv 66 0,mv 67 10,i1 68 (.dJ (.t 66) (.t 67)),i1 69 (.dN .i64 (.t 68)),bt 70 .add 65 69,bn 71 .sub 70 48,mv 5 71] [0,2,4,5,6,7,8,9,10])
 .skip))
 (.cU none [mv 72 9,mv 73 72,b6 74 5 73 false,jz 75 73 false .gtr 74 2147483647,po 76 73 75,mv 9 76] [0,2,4,5,6,7,8,9,10])))
 (aj [mv 78 0,mv 79 10,i1 80 (.dJ (.t 78) (.t 79)),bu 81 .geq 80 48,mv 82 81,b6 83 0 82 true,b6 84 10 82 true,cQ 85 82 true (.dJ (.t 83) (.t 84)),cQ 86 82 true (.bin .leq (.t 85) (.c (.int .u8 57))),pf 87 82 86,mv 77 87] [0,2,4,5,6,7,8,9,10,77]
 (.cond (.t 77) (aj [mv 88 7,bn 89 .add 88 1,mv 7 89] [0,2,4,5,6,7,8,9,10]
 (aj [mi 11 100000] [0,2,4,5,6,7,8,9,10,11]
 (.join [(0,false),(2,false),(4,false),(5,false),(6,false),(7,false),(8,false),(9,false),(10,false),(11,false)] (aj [mi 12 1] [0,2,4,5,6,7,8,9,10,11,12]
 (.block 3 (.loop [(0,false),(2,false),(4,false),(5,false),(6,false),(7,false),(8,false),(9,false),(10,false),(11,false),(12,false)] (.seq (aj [mv 90 12,mv 91 10,mv 92 8,bt 93 .sub 91 92,bt 94 .lss 90 93,mv 95 94,b6 96 12 95 true,jz 97 95 true .lss 96 7,pf 98 95 97] [0,2,4,5,6,7,8,9,10,11,12,98]
 (.cond (.t 98) .skip
 (.exit 3)))
 (.seq (.block 4 (.cU none [mv 101 11,bn 102 .quo 101 10,mv 11 102] [0,2,4,5,6,7,8,9,10,11,12]))
 (.cU none [mv 99 12,bn 100 .add 99 1,mv 12 100] [0,2,4,5,6,7,8,9,10,11,12]))))))
 (.cU none [mv 103 6,mv 104 11,mv 105 0,mv 106 10,i1 107 (.dJ (.t 105) (.t 106)),i1 108 (.dN .i64 (.t 107)),bn 109 .sub 108 48,bt 110 .mul 104 109,bt 111 .add 103 110,mv 6 111] [0,2,4,5,6,7,8,9,10]))))
 (aj [i1 34 (.build iC []),st 4 2 34,mi 3 11] [2,3]
 .ret)))))))))
 (.cU none [mv 32 10,bn 33 .add 32 1,mv 10 33] [0,2,4,5,6,7,8,9,10]))))))
 (.seq (aj [mv 112 7,bn 113 .eql 112 0] [0,2,4,5,6,8,9,113]
 (.cond (.t 113) (aj [i1 114 (.build iC []),st 4 2 114,mi 3 11] [2,3]
 .ret)
 .skip))
 (.seq (aj [mv 115 9,mv 116 115,b6 117 8 116 false,jz 118 116 false .geq 117 0,b6 119 118 116 false,b6 120 5 119 true,jz 121 119 true .eql 120 2147483647,cQ 122 116 false (.pick (.t 119) (.t 121) (.c (.bool false))),b6 123 122 116 false,b6 124 6 123 true,jz 125 123 true .gtr 124 0,cQ 126 116 false (.pick (.t 123) (.t 125) (.c (.bool false))),po 127 116 126] [0,2,4,5,6,8,127]
 (.cond (.t 127) (aj [i1 128 (.build iC []),st 4 2 128,mi 3 5] [2,3]
 .ret)
 .skip))
 (aj [mv 129 5,i1 130 (.build iC [(0,1,(.c (.int .i64 2))),(1,1,(.t 129))]),i1 13 (.aQ iC),st 4 13 130] [0,2,4,5,6,8,13]
 (.join [(0,false),(2,false),(4,false),(13,false)] (aj [mv 131 8,bn 132 .geq 131 0] [0,2,4,5,6,13,132]
 (.cond (.t 132) (.cU none [mv 133 5,i1 134 (.bin .mul (.c (.int .i64 1000000)) (.t 133)),mv 135 6,bt 136 .add 134 135,i1 137 (.build iC [(0,1,(.c (.int .i64 3))),(1,1,(.t 136))]),st 4 13 137] [0,2,4,13])
 .skip))
 (.join [(2,false),(13,false)] (aj [mv 138 4,bn 139 .eql 138 1,mv 140 139,b6 141 0 140 true,cQ 142 140 true (.dJ (.t 141) (.c (.int .i64 0))),cQ 143 140 true (.bin .eql (.t 142) (.c (.int .u8 45))),pf 144 140 143] [2,13,144]
 (.cond (.t 144) (.cU none [fa 145 1 13,ld 146 1 145,i1 147 (.bin .sub (.c (.int .i64 0)) (.t 146)),fa 148 1 13,st 1 148 147] [2,13])
 .skip))
 (aj [lm 149 4 13,st 4 2 149,mi 3 0] [2,3]
 .ret)))))))))))))))
def qL:List bj:=[⟨2,false,some (4,true)⟩,⟨3,true,none⟩]
theorem Bj:bG Go.Proofs.Tryz.prog 136 150 qL rP=true:=by kernel_rfl
theorem BS{s_0}{s:ab}{Q:List AV→ab→Prop}:ok (dV s_0) (fun r=>Q [.agg [.int .i64 r.1.Kind,.int .i64 r.1.N,.str r.1.S.b,.sl false 4 r.1.L.length (flat r.1.L)],.int .i64 r.2] s)→FN Go.Proofs.Tryz.prog 136 [.str s_0.b] s Q:=by
 intro h
 refine FN.of (ay mix) Bj rfl (Nat.le_of_ble_eq_true rfl) ?_
 revert h
 rw[rP,qL,dV]
 repeat'(first
  |with_reducible exact bI
  |with_reducible refine aU ?_ ?_
  |with_reducible exact aV
  |with_reducible refine bN ?_
  |((with_reducible refine ft (live:=[(0,false),(2,false),(4,false)]) (fun(at3:Int)=>⟨[(0,.str s_0.b),(2,.loc [.int .i64 0,.int .i64 0,.str (aL.mk []).b,.sl true 4 0 []]),(4,.int .i64 at3)],[],s⟩) (fun J=>?_) ?_);rotate_left;rintro at3)
  |((with_reducible refine ft (live:=[(0,false),(2,false),(4,false),(5,false),(6,false),(7,false),(8,false),(9,false),(10,false)]) (fun(n44:Int)=>⟨[(0,.str s_0.b),(2,.loc [.int .i64 0,.int .i64 0,.str (aL.mk []).b,.sl true 4 0 []]),(4,.int .i64 at3),(5,.int .i64 n44),(6,.int .i64 parts15),(7,.int .i64 (az (digits16+1))),(8,.int .i64 point17),(9,.bool over18),(10,.int .i64 k19)],[],s⟩) (fun J=>?_) ?_);rotate_left;rintro n44)
  |((with_reducible refine dp (fun((by60,j61):Int×Int)=>⟨[(0,.str s_0.b),(2,.loc [.int .i64 0,.int .i64 0,.str (aL.mk []).b,.sl true 4 0 []]),(4,.int .i64 at3),(5,.int .i64 n14),(6,.int .i64 parts15),(7,.int .i64 (az (digits16+1))),(8,.int .i64 point17),(9,.bool over18),(10,.int .i64 k19),(11,.int .i64 by60),(12,.int .i64 j61)],[],s⟩) ?_ ?_);(first|exact rfl|simp -implicitDefEqProofs only[go_sem,seval]);rintro J ⟨by60,j61⟩)
  |((with_reducible refine ft (live:=[(0,false),(2,false),(4,false),(5,false),(6,false),(7,false),(8,false),(9,false),(10,false),(11,false)]) (fun(by59:Int)=>⟨[(0,.str s_0.b),(2,.loc [.int .i64 0,.int .i64 0,.str (aL.mk []).b,.sl true 4 0 []]),(4,.int .i64 at3),(5,.int .i64 n14),(6,.int .i64 parts15),(7,.int .i64 (az (digits16+1))),(8,.int .i64 point17),(9,.bool over18),(10,.int .i64 k19),(11,.int .i64 by59)],[],s⟩) (fun J=>?_) ?_);rotate_left;rintro by59)
  |((with_reducible refine dh (live:=[(0,false),(2,false),(4,false),(5,false),(6,false),(7,false),(8,false),(9,false),(10,false)]) (fun((n33,parts34,digits35,point36,over37):Int×Int×Int×Int×Bool)=>⟨[(0,.str s_0.b),(2,.loc [.int .i64 0,.int .i64 0,.str (aL.mk []).b,.sl true 4 0 []]),(4,.int .i64 at3),(5,.int .i64 n33),(6,.int .i64 parts34),(7,.int .i64 digits35),(8,.int .i64 point36),(9,.bool over37),(10,.int .i64 k19)],[],s⟩) (fun J=>?_) ?_);rotate_left;rintro⟨n33,parts34,digits35,point36,over37⟩)
  |((with_reducible refine dp (fun((n14,parts15,digits16,point17,over18,k19):Int×Int×Int×Int×Bool×Int)=>⟨[(0,.str s_0.b),(2,.loc [.int .i64 0,.int .i64 0,.str (aL.mk []).b,.sl true 4 0 []]),(4,.int .i64 at3),(5,.int .i64 n14),(6,.int .i64 parts15),(7,.int .i64 digits16),(8,.int .i64 point17),(9,.bool over18),(10,.int .i64 k19)],[],s⟩) ?_ ?_);(first|exact rfl|simp -implicitDefEqProofs only[go_sem,seval]);rintro J ⟨n14,parts15,digits16,point17,over18,k19⟩)
  |((with_reducible refine dh (live:=[(0,false),(2,false),(4,false),(5,false),(6,false),(7,false),(8,false),(9,false)]) (fun((n7,parts8,digits9,point10,over11):Int×Int×Int×Int×Bool)=>⟨[(0,.str s_0.b),(2,.loc [.int .i64 0,.int .i64 0,.str (aL.mk []).b,.sl true 4 0 []]),(4,.int .i64 at3),(5,.int .i64 n7),(6,.int .i64 parts8),(7,.int .i64 digits9),(8,.int .i64 point10),(9,.bool over11)],[],s⟩) (fun J=>?_) ?_);rotate_left;rintro⟨n7,parts8,digits9,point10,over11⟩)
  |((with_reducible refine ft (live:=[(0,false),(2,false),(4,false),(13,false)]) (fun(v75:aa)=>⟨[(0,.str s_0.b),(2,.loc [.int .i64 0,.int .i64 0,.str (aL.mk []).b,.sl true 4 0 []]),(4,.int .i64 at3),(13,.loc [.int .i64 v75.Kind,.int .i64 v75.N,.str v75.S.b,.sl false 4 v75.L.length (flat v75.L)])],[],s⟩) (fun J=>?_) ?_);rotate_left;rintro v75)
  |((with_reducible refine ft (live:=[(2,false),(13,false)]) (fun(v77:aa)=>⟨[(2,.loc [.int .i64 0,.int .i64 0,.str (aL.mk []).b,.sl true 4 0 []]),(13,.loc [.int .i64 v77.Kind,.int .i64 v77.N,.str v77.S.b,.sl false 4 v77.L.length (flat v77.L)])],[],s⟩) (fun J=>?_) ?_);rotate_left;rintro v77)
  |simp -implicitDefEqProofs only[go_sem,seval])
theorem jO{s_0}{s:ab}{r:aa×Int}(h:dV s_0=some r):FE Go.Proofs.Tryz.prog 136 [.str s_0.b] s [.agg [.int .i64 r.1.Kind,.int .i64 r.1.N,.str r.1.S.b,.sl false 4 r.1.L.length (flat r.1.L)],.int .i64 r.2] s:=BS ⟨r,h,rfl,rfl⟩
def cX(b_0:(List UInt8))(at_1:Int)(last_2:Bool):Option (bd×Int):=
 if(decide (at_1<0))||(decide (at_1>(b_0.length:Int)))then
  some ((bd.mk 0 0 0 (aa.mk 0 0 (aL.mk []) ([]:List aa)) (aL.mk [])),2)
 else
  cj (fT b_0 at_1) fun r1=>
  if r1==(b_0.length:Int)then
   if last_2 then
    some ((bd.mk 0 r1 r1 (aa.mk 0 0 (aL.mk []) ([]:List aa)) (aL.mk [])),0)
   else
    some ((bd.mk 0 r1 r1 (aa.mk 0 0 (aL.mk []) ([]:List aa)) (aL.mk [])),6)
  else
   bq (0≤r1∧r1<b_0.length)<|
   cj (dZ b_0 r1) fun r2=>
   if((ix b_0 r1).toNat:Int)==91 then
    some ((bd.mk 2 r1 (az (r1+1)) (aa.mk 0 0 (aL.mk []) ([]:List aa)) (aL.mk [])),0)
   else
    if((ix b_0 r1).toNat:Int)==93 then
     some ((bd.mk 3 r1 (az (r1+1)) (aa.mk 0 0 (aL.mk []) ([]:List aa)) (aL.mk [])),0)
    else
     bq (((((ix b_0 r1).toNat:Int)==60)&&(decide (az (r1+1)<(b_0.length:Int))))=true→0≤az (r1+1)∧az (r1+1)<b_0.length)<|
     if((((ix b_0 r1).toNat:Int)==60)&&(decide (az (r1+1)<(b_0.length:Int))))&&(((ix b_0 (az (r1+1))).toNat:Int)==60)then
      some ((bd.mk 4 r1 (az (r1+2)) (aa.mk 0 0 (aL.mk []) ([]:List aa)) (aL.mk [])),0)
     else
      bq (((((ix b_0 r1).toNat:Int)==62)&&(decide (az (r1+1)<(b_0.length:Int))))=true→0≤az (r1+1)∧az (r1+1)<b_0.length)<|
      if((((ix b_0 r1).toNat:Int)==62)&&(decide (az (r1+1)<(b_0.length:Int))))&&(((ix b_0 (az (r1+1))).toNat:Int)==62)then
       some ((bd.mk 5 r1 (az (r1+2)) (aa.mk 0 0 (aL.mk []) ([]:List aa)) (aL.mk [])),0)
      else
       if((((ix b_0 r1).toNat:Int)==62)&&((az (r1+1))==(b_0.length:Int)))&&(!last_2)then
        some ((bd.mk 0 r1 r1 (aa.mk 0 0 (aL.mk []) ([]:List aa)) (aL.mk [])),6)
       else
        if(((ix b_0 r1).toNat:Int)==60)||(((ix b_0 r1).toNat:Int)==40)then
         cj (fc b_0 (az (r1+1)) last_2) fun r3=>
         jn (
          if((ix b_0 r1).toNat:Int)==40 then
           cj (fU b_0 (az (r1+1)) last_2) fun r10=>
           some ((bd.mk 0 r1 r1 (aa.mk 0 0 (aL.mk []) ([]:List aa)) (aL.mk [])),r10.1,r10.2.1,r10.2.2)
          else
           some ((bd.mk 0 r1 r1 (aa.mk 0 0 (aL.mk []) ([]:List aa)) (aL.mk [])),r3.1,r3.2.1,r3.2.2)) fun((no6,s7,to8,e9):bd×(List UInt8)×Int×Int)=>
         if e9 !=0 then
          some (no6,e9)
         else
          some ((bd.mk 1 r1 to8 (aa.mk 4 0 (aL.mk s7) ([]:List aa)) (aL.mk [])),0)
        else
         if((ix b_0 r1).toNat:Int)==47 then
          cj (dZ b_0 (az (r1+1))) fun r11=>
          if(r11==(b_0.length:Int))&&(!last_2)then
           some ((bd.mk 0 r1 r1 (aa.mk 0 0 (aL.mk []) ([]:List aa)) (aL.mk [])),6)
          else
           bq (0≤az (r1+1)∧az (r1+1)≤r11∧r11≤b_0.length)<|
           cj (fo (part b_0 (az (r1+1)) r11)) fun r12=>
           if r12.2 !=0 then
            some ((bd.mk 0 r1 r1 (aa.mk 0 0 (aL.mk []) ([]:List aa)) (aL.mk [])),r12.2)
           else
            some ((bd.mk 1 r1 r11 r12.1 (aL.mk [])),0)
         else
          cj (cu (ix b_0 r1)) fun r13=>
          if r13 then
           some ((bd.mk 0 r1 r1 (aa.mk 0 0 (aL.mk []) ([]:List aa)) (aL.mk [])),11)
          else
           if(r2==(b_0.length:Int))&&(!last_2)then
            some ((bd.mk 0 r1 r1 (aa.mk 0 0 (aL.mk []) ([]:List aa)) (aL.mk [])),6)
           else
            if((((decide (((ix b_0 r1).toNat:Int)≥48))&&(decide (((ix b_0 r1).toNat:Int)≤57)))||(((ix b_0 r1).toNat:Int)==43))||(((ix b_0 r1).toNat:Int)==45))||(((ix b_0 r1).toNat:Int)==46)then
             bq (0≤r1∧r1≤r2∧r2≤b_0.length)<|
             cj (dV (aL.mk (part b_0 r1 r2))) fun r14=>
             if r14.2 !=0 then
              some ((bd.mk 0 r1 r1 (aa.mk 0 0 (aL.mk []) ([]:List aa)) (aL.mk [])),r14.2)
             else
              some ((bd.mk 1 r1 r2 r14.1 (aL.mk [])),0)
            else
             bq (0≤r1∧r1≤r2∧r2≤b_0.length)<|
             some ((bd.mk 6 r1 r2 (aa.mk 0 0 (aL.mk []) ([]:List aa)) (aL.mk (part b_0 r1 r2))),0)
def tX:IC:=
 (aj [i1 6 (.aQ jY),mi 7 0] [0,1,2,6]
 (.seq (aj [mv 20 1,bn 21 .lss 20 0,mv 22 21,b6 23 1 22 false,b6 24 0 22 false,cQ 25 22 false (.len 0 (.t 24)),Ap 26 22 false .gtr 23 25,po 27 22 26] [0,1,2,6,27]
 (.cond (.t 27) (aj [i1 28 (.build jY []),st 8 6 28,mi 7 2] [6,7]
 .ret)
 .skip))
 (aj [mv 29 0,mv 30 1,c2 31 131 29 30,mv 8 31] [0,2,6,8]
 (aj [mv 32 8,mv 33 8,i1 34 (.build jY [(1,1,(.t 32)),(2,1,(.t 33))]),i1 9 (.aQ jY),st 8 9 34] [0,2,6,8,9]
 (.seq (aj [mv 35 8,mv 36 0,le 37 0 36,bt 38 .eql 35 37] [0,2,6,8,9,38]
 (.cond (.t 38) (.seq (aj [mv 39 2] [6,9,39]
 (.cond (.t 39) (aj [lm 40 8 9,st 8 6 40,mi 7 0] [6,7]
 .ret)
 .skip))
 (aj [lm 41 8 9,st 8 6 41,mi 7 6] [6,7]
 .ret))
 .skip))
 (aj [mv 42 0,mv 43 8,ia 44 [.int .u8 0] 42 43,ld 45 1 44,mv 10 45] [0,2,6,8,9,10]
 (aj [mv 46 8,bn 47 .add 46 1,mv 11 47] [0,2,6,8,9,10,11]
 (aj [mv 48 0,mv 49 8,c2 50 132 48 49,mv 12 50] [0,2,6,8,9,10,11,12]
 (.seq (.block 0 (aj [mv 52 10,bu 53 .eql 52 91,mv 51 53] [0,2,6,8,9,10,11,12,51]
 (.cond (.t 51) (aj [mv 54 8,mv 55 11,i1 56 (.build jY [(0,1,(.c (.int .i64 2))),(1,1,(.t 54)),(2,1,(.t 55))]),st 8 6 56,mi 7 0] [6,7]
 .ret)
 (aj [mv 58 10,bu 59 .eql 58 93,mv 57 59] [0,2,6,8,9,10,11,12,57]
 (.cond (.t 57) (aj [mv 60 8,mv 61 11,i1 62 (.build jY [(0,1,(.c (.int .i64 3))),(1,1,(.t 60)),(2,1,(.t 61))]),st 8 6 62,mi 7 0] [6,7]
 .ret)
 (aj [mv 64 10,bu 65 .eql 64 60,mv 66 65,b6 67 11 66 true,b6 68 0 66 true,cQ 69 66 true (.len 0 (.t 68)),Ap 70 66 true .lss 67 69,pf 71 66 70,mv 72 71,b6 73 0 72 true,b6 74 11 72 true,cQ 75 72 true (.indexAddr [.int .u8 0] (.t 73) (.t 74)),lg 76 72 true 1 75,cQ 77 72 true (.bin .eql (.t 76) (.c (.int .u8 60))),pf 78 72 77,mv 63 78] [0,2,6,8,9,10,11,12,63]
 (.cond (.t 63) (aj [mv 79 8,mv 80 8,bn 81 .add 80 2,i1 82 (.build jY [(0,1,(.c (.int .i64 4))),(1,1,(.t 79)),(2,1,(.t 81))]),st 8 6 82,mi 7 0] [6,7]
 .ret)
 (aj [mv 84 10,bu 85 .eql 84 62,mv 86 85,b6 87 11 86 true,b6 88 0 86 true,cQ 89 86 true (.len 0 (.t 88)),Ap 90 86 true .lss 87 89,pf 91 86 90,mv 92 91,b6 93 0 92 true,b6 94 11 92 true,cQ 95 92 true (.indexAddr [.int .u8 0] (.t 93) (.t 94)),lg 96 92 true 1 95,cQ 97 92 true (.bin .eql (.t 96) (.c (.int .u8 62))),pf 98 92 97,mv 83 98] [0,2,6,8,9,10,11,12,83]
 (.cond (.t 83) (aj [mv 99 8,mv 100 8,bn 101 .add 100 2,i1 102 (.build jY [(0,1,(.c (.int .i64 5))),(1,1,(.t 99)),(2,1,(.t 101))]),st 8 6 102,mi 7 0] [6,7]
 .ret)
 (aj [mv 104 10,bu 105 .eql 104 62,mv 106 105,b6 107 11 106 true,b6 108 0 106 true,cQ 109 106 true (.len 0 (.t 108)),Ap 110 106 true .eql 107 109,pf 111 106 110,mv 112 111,b6 113 2 112 true,cQ 114 112 true (.un .not (.t 113)),pf 115 112 114,mv 103 115] [0,2,6,8,9,10,11,12,103]
 (.cond (.t 103) (aj [lm 116 8 9,st 8 6 116,mi 7 6] [6,7]
 .ret)
 (aj [mv 118 10,bu 119 .eql 118 60,mv 120 119,b6 121 10 120 false,cQ 122 120 false (.bin .eql (.t 121) (.c (.int .u8 40))),po 123 120 122,mv 117 123] [0,2,6,8,9,10,11,12,117]
 (.cond (.t 117) (aj [mv 125 0,mv 126 11,mv 127 2,c3 128 133 125 126 127,lj 124 128,ex 129 124 0,ex 130 124 1,ex 131 124 2,mt 13 129,mv 14 130,mv 15 131] [0,2,6,8,9,10,11,13,14,15]
 (.join [(6,false),(8,false),(9,false),(13,true),(14,false),(15,false)] (aj [mv 132 10,bu 133 .eql 132 40] [0,2,6,8,9,11,13,14,15,133]
 (.cond (.t 133) (.cU none [mt 135 0,mv 136 11,mv 137 2,c3 138 134 135 136 137,lj 134 138,ex 139 134 0,ex 140 134 1,ex 141 134 2,mt 13 139,mv 14 140,mv 15 141] [6,8,9,13,14,15])
 .skip))
 (.seq (aj [mv 142 15,bn 143 .neq 142 0] [6,8,9,13,14,15,143]
 (.cond (.t 143) (aj [lm 144 8 9,mv 145 15,st 8 6 144,mv 7 145] [6,7]
 .ret)
 .skip))
 (aj [mv 146 8,mv 147 14,mt 148 13,i1 149 (.fA (.t 148)),i1 150 (.build iC [(0,1,(.c (.int .i64 4))),(2,1,(.t 149))]),i1 151 (.build jY [(0,1,(.c (.int .i64 1))),(1,1,(.t 146)),(2,1,(.t 147)),(3,4,(.t 150))]),st 8 6 151,mi 7 0] [6,7]
 .ret))))
 (aj [mv 153 10,bu 154 .eql 153 47,mv 152 154] [0,2,6,8,9,10,11,12,152]
 (.cond (.t 152) (aj [mv 155 0,mv 156 11,c2 157 132 155 156,mv 12 157] [0,2,6,8,9,11,12]
 (.seq (aj [mv 158 12,mv 159 0,le 160 0 159,bt 161 .eql 158 160,mv 162 161,b6 163 2 162 true,cQ 164 162 true (.un .not (.t 163)),pf 165 162 164] [0,6,8,9,11,12,165]
 (.cond (.t 165) (aj [lm 166 8 9,st 8 6 166,mi 7 6] [6,7]
 .ret)
 .skip))
 (aj [mt 168 0,mv 169 11,mv 170 12,i1 171 (.slice 1 (.t 168) (some (.t 169)) (some (.t 170)) none),c1 172 135 171,lj 167 172,ex 173 167 0,ex 174 167 1,i1 16 (.aQ iC),st 4 16 173,mv 17 174] [6,8,9,12,16,17]
 (.seq (aj [mv 175 17,bn 176 .neq 175 0] [6,8,9,12,16,17,176]
 (.cond (.t 176) (aj [lm 177 8 9,mv 178 17,st 8 6 177,mv 7 178] [6,7]
 .ret)
 .skip))
 (aj [mv 179 8,mv 180 12,lm 181 4 16,i1 182 (.build jY [(0,1,(.c (.int .i64 1))),(1,1,(.t 179)),(2,1,(.t 180)),(3,4,(.t 181))]),st 8 6 182,mi 7 0] [6,7]
 .ret)))))
 (aj [mv 184 10,c1 185 79 184,mv 183 185] [0,2,6,8,9,10,12,183]
 (.cond (.t 183) (aj [lm 186 8 9,st 8 6 186,mi 7 11] [6,7]
 .ret)
 .skip)))))))))))))))))
 (.seq (aj [mv 187 12,mv 188 0,le 189 0 188,bt 190 .eql 187 189,mv 191 190,b6 192 2 191 true,cQ 193 191 true (.un .not (.t 192)),pf 194 191 193] [0,6,8,9,10,12,194]
 (.cond (.t 194) (aj [lm 195 8 9,st 8 6 195,mi 7 6] [6,7]
 .ret)
 .skip))
 (.seq (aj [mv 196 10,bu 197 .geq 196 48,mv 198 197,b6 199 10 198 true,cQ 200 198 true (.bin .leq (.t 199) (.c (.int .u8 57))),pf 201 198 200,mv 202 201,b6 203 10 202 false,cQ 204 202 false (.bin .eql (.t 203) (.c (.int .u8 43))),po 205 202 204,mv 206 205,b6 207 10 206 false,cQ 208 206 false (.bin .eql (.t 207) (.c (.int .u8 45))),po 209 206 208,mv 210 209,b6 211 10 210 false,cQ 212 210 false (.bin .eql (.t 211) (.c (.int .u8 46))),po 213 210 212] [0,6,8,9,12,213]
 (.cond (.t 213) (aj [mt 215 0,mv 216 8,mv 217 12,i1 218 (.slice 1 (.t 215) (some (.t 216)) (some (.t 217)) none),i1 219 (.fA (.t 218)),c1 220 136 219,lj 214 220,ex 221 214 0,ex 222 214 1,i1 18 (.aQ iC),st 4 18 221,mv 19 222] [6,8,9,12,18,19]
 (.seq (aj [mv 223 19,bn 224 .neq 223 0] [6,8,9,12,18,19,224]
 (.cond (.t 224) (aj [lm 225 8 9,mv 226 19,st 8 6 225,mv 7 226] [6,7]
 .ret)
 .skip))
 (aj [mv 227 8,mv 228 12,lm 229 4 18,i1 230 (.build jY [(0,1,(.c (.int .i64 1))),(1,1,(.t 227)),(2,1,(.t 228)),(3,4,(.t 229))]),st 8 6 230,mi 7 0] [6,7]
 .ret)))
 .skip))
 (aj [mv 231 8,mv 232 12,mt 233 0,mv 234 8,mv 235 12,i1 236 (.slice 1 (.t 233) (some (.t 234)) (some (.t 235)) none),i1 237 (.fA (.t 236)),i1 238 (.build jY [(0,1,(.c (.int .i64 6))),(1,1,(.t 231)),(2,1,(.t 232)),(7,1,(.t 237))]),st 8 6 238,mi 7 0] [6,7]
 .ret))))))))))))
def sE:List bj:=[⟨6,false,some (8,true)⟩,⟨7,true,none⟩]
theorem CT:bG Go.Proofs.Tryz.prog 80 239 sE tX=true:=by kernel_rfl
theorem Dd{b_0 at_1 last_2}{s:ab}{Q:List AV→ab→Prop}:ok (cX b_0 at_1 last_2) (fun r=>Q [.agg [.int .i64 r.1.Kind,.int .i64 r.1.bP,.int .i64 r.1.To,.int .i64 r.1.V.Kind,.int .i64 r.1.V.N,.str r.1.V.S.b,.sl false 4 r.1.V.L.length (flat r.1.V.L),.str r.1.S.b],.int .i64 r.2] s)→FN Go.Proofs.Tryz.prog 80 [.sl false 1 b_0.length (flat b_0),.int .i64 at_1,.bool last_2] s Q:=by
 intro h
 refine FN.of (ay mix) CT rfl (Nat.le_of_ble_eq_true rfl) ?_
 revert h
 rw[tX,sE,cX]
 repeat'(first
  |with_reducible exact bI
  |with_reducible refine aU ?_ ?_
  |with_reducible exact aV
  |with_reducible refine bN ?_
  |with_reducible refine ak (fun _(h:fT b_0 at_1=some _)=>kH h) (fun r1=>?_)
  |with_reducible refine ae (fun _(h:fT b_0 at_1=some _)=>kH h) (fun _=>rfl) (fun r1=>?_)
  |with_reducible refine ak (fun _(h:fT b_0 at_1=some _)=>(by refine al ?_ (kH h);simp -implicitDefEqProofs only[go_sem,seval])) (fun r1=>?_)
  |with_reducible refine ae (fun _(h:fT b_0 at_1=some _)=>(by refine al ?_ (kH h);simp -implicitDefEqProofs only[go_sem,seval])) (fun _=>rfl) (fun r1=>?_)
  |with_reducible refine ak (fun _(h:dZ b_0 r1=some _)=>fO h) (fun r2=>?_)
  |with_reducible refine ae (fun _(h:dZ b_0 r1=some _)=>fO h) (fun _=>rfl) (fun r2=>?_)
  |with_reducible refine ak (fun _(h:dZ b_0 r1=some _)=>(by refine al ?_ (fO h);simp -implicitDefEqProofs only[go_sem,seval])) (fun r2=>?_)
  |with_reducible refine ae (fun _(h:dZ b_0 r1=some _)=>(by refine al ?_ (fO h);simp -implicitDefEqProofs only[go_sem,seval])) (fun _=>rfl) (fun r2=>?_)
  |with_reducible refine ak (fun _(h:fc b_0 (az (r1+1)) last_2=some _)=>jP h) (fun r3=>?_)
  |with_reducible refine ae (fun _(h:fc b_0 (az (r1+1)) last_2=some _)=>jP h) (fun _=>rfl) (fun r3=>?_)
  |with_reducible refine ak (fun _(h:fc b_0 (az (r1+1)) last_2=some _)=>(by refine al ?_ (jP h);simp -implicitDefEqProofs only[go_sem,seval])) (fun r3=>?_)
  |with_reducible refine ae (fun _(h:fc b_0 (az (r1+1)) last_2=some _)=>(by refine al ?_ (jP h);simp -implicitDefEqProofs only[go_sem,seval])) (fun _=>rfl) (fun r3=>?_)
  |with_reducible refine ak (fun _(h:fU b_0 (az (r1+1)) last_2=some _)=>kI h) (fun r10=>?_)
  |with_reducible refine ae (fun _(h:fU b_0 (az (r1+1)) last_2=some _)=>kI h) (fun _=>rfl) (fun r10=>?_)
  |with_reducible refine ak (fun _(h:fU b_0 (az (r1+1)) last_2=some _)=>(by refine al ?_ (kI h);simp -implicitDefEqProofs only[go_sem,seval])) (fun r10=>?_)
  |with_reducible refine ae (fun _(h:fU b_0 (az (r1+1)) last_2=some _)=>(by refine al ?_ (kI h);simp -implicitDefEqProofs only[go_sem,seval])) (fun _=>rfl) (fun r10=>?_)
  |with_reducible refine ak (fun _(h:dZ b_0 (az (r1+1))=some _)=>fO h) (fun r11=>?_)
  |with_reducible refine ae (fun _(h:dZ b_0 (az (r1+1))=some _)=>fO h) (fun _=>rfl) (fun r11=>?_)
  |with_reducible refine ak (fun _(h:dZ b_0 (az (r1+1))=some _)=>(by refine al ?_ (fO h);simp -implicitDefEqProofs only[go_sem,seval])) (fun r11=>?_)
  |with_reducible refine ae (fun _(h:dZ b_0 (az (r1+1))=some _)=>(by refine al ?_ (fO h);simp -implicitDefEqProofs only[go_sem,seval])) (fun _=>rfl) (fun r11=>?_)
  |with_reducible refine ak (fun _(h:fo (part b_0 (az (r1+1)) r11)=some _)=>kG h) (fun r12=>?_)
  |with_reducible refine ae (fun _(h:fo (part b_0 (az (r1+1)) r11)=some _)=>kG h) (fun _=>rfl) (fun r12=>?_)
  |with_reducible refine ak (fun _(h:fo (part b_0 (az (r1+1)) r11)=some _)=>(by refine al ?_ (kG h);simp -implicitDefEqProofs only[go_sem,seval])) (fun r12=>?_)
  |with_reducible refine ae (fun _(h:fo (part b_0 (az (r1+1)) r11)=some _)=>(by refine al ?_ (kG h);simp -implicitDefEqProofs only[go_sem,seval])) (fun _=>rfl) (fun r12=>?_)
  |with_reducible refine ak (fun _(h:cu (ix b_0 r1)=some _)=>eI h) (fun r13=>?_)
  |with_reducible refine ae (fun _(h:cu (ix b_0 r1)=some _)=>eI h) (fun _=>rfl) (fun r13=>?_)
  |with_reducible refine ak (fun _(h:cu (ix b_0 r1)=some _)=>(by refine al ?_ (eI h);simp -implicitDefEqProofs only[go_sem,seval])) (fun r13=>?_)
  |with_reducible refine ae (fun _(h:cu (ix b_0 r1)=some _)=>(by refine al ?_ (eI h);simp -implicitDefEqProofs only[go_sem,seval])) (fun _=>rfl) (fun r13=>?_)
  |with_reducible refine ak (fun _(h:dV (aL.mk (part b_0 r1 r2))=some _)=>jO h) (fun r14=>?_)
  |with_reducible refine ae (fun _(h:dV (aL.mk (part b_0 r1 r2))=some _)=>jO h) (fun _=>rfl) (fun r14=>?_)
  |with_reducible refine ak (fun _(h:dV (aL.mk (part b_0 r1 r2))=some _)=>(by refine al ?_ (jO h);simp -implicitDefEqProofs only[go_sem,seval])) (fun r14=>?_)
  |with_reducible refine ae (fun _(h:dV (aL.mk (part b_0 r1 r2))=some _)=>(by refine al ?_ (jO h);simp -implicitDefEqProofs only[go_sem,seval])) (fun _=>rfl) (fun r14=>?_)
  |((with_reducible refine ft (fun((no6,s7,to8,e9):bd×(List UInt8)×Int×Int)=>⟨[(6,.loc [.int .i64 0,.int .i64 0,.int .i64 0,.int .i64 0,.int .i64 0,.str (aL.mk []).b,.sl true 4 0 [],.str (aL.mk []).b]),(8,.int .i64 r1),(9,.loc [.int .i64 no6.Kind,.int .i64 no6.bP,.int .i64 no6.To,.int .i64 no6.V.Kind,.int .i64 no6.V.N,.str no6.V.S.b,.sl false 4 no6.V.L.length (flat no6.V.L),.str no6.S.b]),(13,.sl false 1 s7.length (flat s7)),(14,.int .i64 to8),(15,.int .i64 e9)],[],s⟩) (fun J=>?_) ?_);rotate_left;rintro⟨no6,s7,to8,e9⟩)
  |simp -implicitDefEqProofs only[go_sem,seval])
theorem eZ{b_0 at_1 last_2}{s:ab}{r:bd×Int}(h:cX b_0 at_1 last_2=some r):FE Go.Proofs.Tryz.prog 80 [.sl false 1 b_0.length (flat b_0),.int .i64 at_1,.bool last_2] s [.agg [.int .i64 r.1.Kind,.int .i64 r.1.bP,.int .i64 r.1.To,.int .i64 r.1.V.Kind,.int .i64 r.1.V.N,.str r.1.V.S.b,.sl false 4 r.1.V.L.length (flat r.1.V.L),.str r.1.S.b],.int .i64 r.2] s:=Dd ⟨r,h,rfl,rfl⟩
def gy(t_0:bd):Option (Bool):=some ((t_0.Kind==1)&&(t_0.V.Kind==2))
def rT:IC:=
 (aj [i1 1 (.lZ 8 (.t 0)),dT 2 (.bool false)] [1]
 (aj [fa 3 0 1,ld 4 1 3,bn 5 .eql 4 1,mv 6 5,fg 7 6 true 3 1,fg 8 6 true 0 7,lg 9 6 true 1 8,jz 10 6 true .eql 9 2,pf 11 6 10,mv 2 11] [2]
 .ret))
def qP:List bj:=[⟨2,true,none⟩]
theorem Bo:bG Go.Proofs.Tryz.prog 126 12 qP rT=true:=by kernel_rfl
theorem BW{t_0}{s:ab}{Q:List AV→ab→Prop}:ok (gy t_0) (fun r=>Q [.bool r] s)→FN Go.Proofs.Tryz.prog 126 [.agg [.int .i64 t_0.Kind,.int .i64 t_0.bP,.int .i64 t_0.To,.int .i64 t_0.V.Kind,.int .i64 t_0.V.N,.str t_0.V.S.b,.sl false 4 t_0.V.L.length (flat t_0.V.L),.str t_0.S.b]] s Q:=by
 intro h
 refine FN.of (ay mix) Bo rfl (Nat.le_of_ble_eq_true rfl) ?_
 revert h
 rw[rT,qP,gy]
 repeat'(first
  |with_reducible exact bI
  |with_reducible refine aU ?_ ?_
  |with_reducible exact aV
  |with_reducible refine bN ?_
  |simp -implicitDefEqProofs only[go_sem,seval])
theorem jQ{t_0}{s:ab}{r:Bool}(h:gy t_0=some r):FE Go.Proofs.Tryz.prog 126 [.agg [.int .i64 t_0.Kind,.int .i64 t_0.bP,.int .i64 t_0.To,.int .i64 t_0.V.Kind,.int .i64 t_0.V.N,.str t_0.V.S.b,.sl false 4 t_0.V.L.length (flat t_0.V.L),.str t_0.S.b]] s [.bool r] s:=BW ⟨r,h,rfl,rfl⟩
def cM(b_0:(List UInt8))(at_1:Int)(last_2:Bool):Option (Int×Int×Int):=
 cj (cX b_0 at_1 last_2) fun r1=>
 if r1.2 !=0 then
  some (0,0,r1.2)
 else
  if r1.1.Kind==0 then
   some (0,0,10)
  else
   cj (gy r1.1) fun r2=>
   if !r2 then
    some (0,0,11)
   else
    some (r1.1.V.N,r1.1.To,0)
def qw:IC:=
 (aj [mi 6 0,mi 7 0,mi 8 0] [0,1,2]
 (aj [mt 12 0,mv 13 1,mv 14 2,c3 15 80 12 13 14,lj 11 15,ex 16 11 0,ex 17 11 1,i1 9 (.aQ jY),st 8 9 16,mv 10 17] [9,10]
 (.seq (aj [mv 18 10,bn 19 .neq 18 0] [9,10,19]
 (.cond (.t 19) (aj [mv 20 10,mi 6 0,mi 7 0,mv 8 20] [6,7,8]
 .ret)
 .skip))
 (.seq (aj [fa 21 0 9,ld 22 1 21,bn 23 .eql 22 0] [9,23]
 (.cond (.t 23) (aj [mi 6 0,mi 7 0,mi 8 10] [6,7,8]
 .ret)
 .skip))
 (.seq (aj [lm 24 8 9,c1 25 126 24,no 26 25] [9,26]
 (.cond (.t 26) (aj [mi 6 0,mi 7 0,mi 8 11] [6,7,8]
 .ret)
 .skip))
 (.seq (.cU (some 8) [fa 27 3 9,fa 28 1 27,ld 29 1 28,fa 30 2 9,ld 31 1 30,mv 6 29,mv 7 31,mi 8 0] [6,7,8])
 .ret))))))
def pq:List bj:=[⟨6,true,none⟩,⟨7,true,none⟩,⟨8,true,none⟩]
theorem zi:bG Go.Proofs.Tryz.prog 71 32 pq qw=true:=by kernel_rfl
theorem zx{b_0 at_1 last_2}{s:ab}{Q:List AV→ab→Prop}:ok (cM b_0 at_1 last_2) (fun r=>Q [.int .i64 r.1,.int .i64 r.2.1,.int .i64 r.2.2] s)→FN Go.Proofs.Tryz.prog 71 [.sl false 1 b_0.length (flat b_0),.int .i64 at_1,.bool last_2] s Q:=by
 intro h
 refine FN.of (ay mix) zi rfl (Nat.le_of_ble_eq_true rfl) ?_
 revert h
 rw[qw,pq,cM]
 repeat'(first
  |with_reducible exact bI
  |with_reducible refine aU ?_ ?_
  |with_reducible exact aV
  |with_reducible refine bN ?_
  |with_reducible refine ak (fun _(h:cX b_0 at_1 last_2=some _)=>eZ h) (fun r1=>?_)
  |with_reducible refine ae (fun _(h:cX b_0 at_1 last_2=some _)=>eZ h) (fun _=>rfl) (fun r1=>?_)
  |with_reducible refine ak (fun _(h:cX b_0 at_1 last_2=some _)=>(by refine al ?_ (eZ h);simp -implicitDefEqProofs only[go_sem,seval])) (fun r1=>?_)
  |with_reducible refine ae (fun _(h:cX b_0 at_1 last_2=some _)=>(by refine al ?_ (eZ h);simp -implicitDefEqProofs only[go_sem,seval])) (fun _=>rfl) (fun r1=>?_)
  |with_reducible refine ak (fun _(h:gy r1.1=some _)=>jQ h) (fun r2=>?_)
  |with_reducible refine ae (fun _(h:gy r1.1=some _)=>jQ h) (fun _=>rfl) (fun r2=>?_)
  |with_reducible refine ak (fun _(h:gy r1.1=some _)=>(by refine al ?_ (jQ h);simp -implicitDefEqProofs only[go_sem,seval])) (fun r2=>?_)
  |with_reducible refine ae (fun _(h:gy r1.1=some _)=>(by refine al ?_ (jQ h);simp -implicitDefEqProofs only[go_sem,seval])) (fun _=>rfl) (fun r2=>?_)
  |simp -implicitDefEqProofs only[go_sem,seval])
theorem dW{b_0 at_1 last_2}{s:ab}{r:Int×Int×Int}(h:cM b_0 at_1 last_2=some r):FE Go.Proofs.Tryz.prog 71 [.sl false 1 b_0.length (flat b_0),.int .i64 at_1,.bool last_2] s [.int .i64 r.1,.int .i64 r.2.1,.int .i64 r.2.2] s:=zx ⟨r,h,rfl,rfl⟩
def fV(b_0:(List UInt8))(at_1:Int)(last_2:Bool)(word_3:aL):Option (Int×Int):=
 cj (cX b_0 at_1 last_2) fun r1=>
 if r1.2 !=0 then
  some (0,r1.2)
 else
  if r1.1.Kind==0 then
   some (0,10)
  else
   if(r1.1.Kind !=6)||(!(r1.1.S.b==word_3.b))then
    some (0,11)
   else
    some (r1.1.To,0)
def ua:IC:=
 (aj [mi 8 0,mi 9 0] [0,1,2,3]
 (aj [mt 13 0,mv 14 1,mv 15 2,c3 16 80 13 14 15,lj 12 16,ex 17 12 0,ex 18 12 1,i1 10 (.aQ jY),st 8 10 17,mv 11 18] [3,10,11]
 (.seq (aj [mv 19 11,bn 20 .neq 19 0] [3,10,11,20]
 (.cond (.t 20) (aj [mv 21 11,mi 8 0,mv 9 21] [8,9]
 .ret)
 .skip))
 (.seq (aj [fa 22 0 10,ld 23 1 22,bn 24 .eql 23 0] [3,10,24]
 (.cond (.t 24) (aj [mi 8 0,mi 9 10] [8,9]
 .ret)
 .skip))
 (.seq (aj [fa 25 0 10,ld 26 1 25,bn 27 .neq 26 6,mv 28 27,fg 29 28 false 7 10,lg 30 28 false 1 29,b6 31 3 28 false,Ap 32 28 false .neq 30 31,po 33 28 32] [10,33]
 (.cond (.t 33) (aj [mi 8 0,mi 9 11] [8,9]
 .ret)
 .skip))
 (aj [fa 34 2 10,ld 35 1 34,mv 8 35,mi 9 0] [8,9]
 .ret))))))
def sH:List bj:=[⟨8,true,none⟩,⟨9,true,none⟩]
theorem CW:bG Go.Proofs.Tryz.prog 72 36 sH ua=true:=by kernel_rfl
theorem Dg{b_0 at_1 last_2 word_3}{s:ab}{Q:List AV→ab→Prop}:ok (fV b_0 at_1 last_2 word_3) (fun r=>Q [.int .i64 r.1,.int .i64 r.2] s)→FN Go.Proofs.Tryz.prog 72 [.sl false 1 b_0.length (flat b_0),.int .i64 at_1,.bool last_2,.str word_3.b] s Q:=by
 intro h
 refine FN.of (ay mix) CW rfl (Nat.le_of_ble_eq_true rfl) ?_
 revert h
 rw[ua,sH,fV]
 repeat'(first
  |with_reducible exact bI
  |with_reducible refine aU ?_ ?_
  |with_reducible exact aV
  |with_reducible refine bN ?_
  |with_reducible refine ak (fun _(h:cX b_0 at_1 last_2=some _)=>eZ h) (fun r1=>?_)
  |with_reducible refine ae (fun _(h:cX b_0 at_1 last_2=some _)=>eZ h) (fun _=>rfl) (fun r1=>?_)
  |with_reducible refine ak (fun _(h:cX b_0 at_1 last_2=some _)=>(by refine al ?_ (eZ h);simp -implicitDefEqProofs only[go_sem,seval])) (fun r1=>?_)
  |with_reducible refine ae (fun _(h:cX b_0 at_1 last_2=some _)=>(by refine al ?_ (eZ h);simp -implicitDefEqProofs only[go_sem,seval])) (fun _=>rfl) (fun r1=>?_)
  |simp -implicitDefEqProofs only[go_sem,seval])
theorem kJ{b_0 at_1 last_2 word_3}{s:ab}{r:Int×Int}(h:fV b_0 at_1 last_2 word_3=some r):FE Go.Proofs.Tryz.prog 72 [.sl false 1 b_0.length (flat b_0),.int .i64 at_1,.bool last_2,.str word_3.b] s [.int .i64 r.1,.int .i64 r.2] s:=Dg ⟨r,h,rfl,rfl⟩
def kB(b_0:(List UInt8))(at_1:Int):Option (Int):=
 cj (eh b_0 at_1) fun r1=>
 bq ((!(!r1))=true→0≤at_1∧at_1<b_0.length)<|
 bq ((!((!r1)||(decide (((ix b_0 at_1).toNat:Int)<48))))=true→0≤at_1∧at_1<b_0.length)<|
 if((!r1)||(decide (((ix b_0 at_1).toNat:Int)<48)))||(decide (((ix b_0 at_1).toNat:Int)>57))then
  some 0
 else
  cj (cM b_0 at_1 true) fun r2=>
  if((r2.2.2 !=0)||(decide (r2.1<1)))||(decide (r2.1>4096))then
   some 0
  else
   cj (cM b_0 r2.2.1 true) fun r3=>
   if(r3.2.2 !=0)||(r3.1 !=0)then
    some 0
   else
    cj (fV b_0 r3.2.1 true (aL.mk [111,98,106])) fun r4=>
    if r4.2 !=0 then
     some 0
    else
     some r2.1
def uc:IC:=
 (aj [mi 4 0] [0,1]
 (.seq (aj [mv 13 0,mv 14 1,c2 15 38 13 14,no 16 15,mv 17 16,b6 18 0 17 false,b6 19 1 17 false,cQ 20 17 false (.indexAddr [.int .u8 0] (.t 18) (.t 19)),lg 21 17 false 1 20,cQ 22 17 false (.bin .lss (.t 21) (.c (.int .u8 48))),po 23 17 22,mv 24 23,b6 25 0 24 false,b6 26 1 24 false,cQ 27 24 false (.indexAddr [.int .u8 0] (.t 25) (.t 26)),lg 28 24 false 1 27,cQ 29 24 false (.bin .gtr (.t 28) (.c (.int .u8 57))),po 30 24 29] [0,1,30]
 (.cond (.t 30) (aj [mi 4 0] [4]
 .ret)
 .skip))
 (aj [mv 32 0,mv 33 1,i1 34 (.call 71 [(.t 32),(.t 33),(.c (.bool true))]),lj 31 34,ex 35 31 0,ex 36 31 1,ex 37 31 2,mv 5 35,mv 6 36,mv 7 37] [0,5,6,7]
 (.seq (aj [mv 38 7,bn 39 .neq 38 0,mv 40 39,b6 41 5 40 false,jz 42 40 false .lss 41 1,po 43 40 42,mv 44 43,b6 45 5 44 false,jz 46 44 false .gtr 45 4096,po 47 44 46] [0,5,6,47]
 (.cond (.t 47) (aj [mi 4 0] [4]
 .ret)
 .skip))
 (aj [mv 49 0,mv 50 6,i1 51 (.call 71 [(.t 49),(.t 50),(.c (.bool true))]),lj 48 51,ex 52 48 0,ex 53 48 1,ex 54 48 2,mv 8 52,mv 9 53,mv 10 54] [0,5,8,9,10]
 (.seq (aj [mv 55 10,bn 56 .neq 55 0,mv 57 56,b6 58 8 57 false,jz 59 57 false .neq 58 0,po 60 57 59] [0,5,9,60]
 (.cond (.t 60) (aj [mi 4 0] [4]
 .ret)
 .skip))
 (aj [mt 62 0,mv 63 9,i1 64 (.call 72 [(.t 62),(.t 63),(.c (.bool true)),(.c (.str [111,98,106]))]),lj 61 64,ex 65 61 0,ex 66 61 1,mv 11 65,mv 12 66] [5,12]
 (.seq (aj [mv 67 12,bn 68 .neq 67 0] [5,68]
 (.cond (.t 68) (aj [mi 4 0] [4]
 .ret)
 .skip))
 (aj [mv 69 5,mv 4 69] [4]
 .ret)))))))))
def sJ:List bj:=[⟨4,true,none⟩]
theorem CY:bG Go.Proofs.Tryz.prog 33 70 sJ uc=true:=by kernel_rfl
theorem Dk{b_0 at_1}{s:ab}{Q:List AV→ab→Prop}:ok (kB b_0 at_1) (fun r=>Q [.int .i64 r] s)→FN Go.Proofs.Tryz.prog 33 [.sl false 1 b_0.length (flat b_0),.int .i64 at_1] s Q:=by
 intro h
 refine FN.of (ay mix) CY rfl (Nat.le_of_ble_eq_true rfl) ?_
 revert h
 rw[uc,sJ,kB]
 repeat'(first
  |with_reducible exact bI
  |with_reducible refine aU ?_ ?_
  |with_reducible exact aV
  |with_reducible refine bN ?_
  |with_reducible refine ak (fun _(h:eh b_0 at_1=some _)=>jf h) (fun r1=>?_)
  |with_reducible refine ae (fun _(h:eh b_0 at_1=some _)=>jf h) (fun _=>rfl) (fun r1=>?_)
  |with_reducible refine ak (fun _(h:eh b_0 at_1=some _)=>(by refine al ?_ (jf h);simp -implicitDefEqProofs only[go_sem,seval])) (fun r1=>?_)
  |with_reducible refine ae (fun _(h:eh b_0 at_1=some _)=>(by refine al ?_ (jf h);simp -implicitDefEqProofs only[go_sem,seval])) (fun _=>rfl) (fun r1=>?_)
  |with_reducible refine ak (fun _(h:cM b_0 at_1 true=some _)=>dW h) (fun r2=>?_)
  |with_reducible refine ae (fun _(h:cM b_0 at_1 true=some _)=>dW h) (fun _=>rfl) (fun r2=>?_)
  |with_reducible refine ak (fun _(h:cM b_0 at_1 true=some _)=>(by refine al ?_ (dW h);simp -implicitDefEqProofs only[go_sem,seval])) (fun r2=>?_)
  |with_reducible refine ae (fun _(h:cM b_0 at_1 true=some _)=>(by refine al ?_ (dW h);simp -implicitDefEqProofs only[go_sem,seval])) (fun _=>rfl) (fun r2=>?_)
  |with_reducible refine ak (fun _(h:cM b_0 r2.2.1 true=some _)=>dW h) (fun r3=>?_)
  |with_reducible refine ae (fun _(h:cM b_0 r2.2.1 true=some _)=>dW h) (fun _=>rfl) (fun r3=>?_)
  |with_reducible refine ak (fun _(h:cM b_0 r2.2.1 true=some _)=>(by refine al ?_ (dW h);simp -implicitDefEqProofs only[go_sem,seval])) (fun r3=>?_)
  |with_reducible refine ae (fun _(h:cM b_0 r2.2.1 true=some _)=>(by refine al ?_ (dW h);simp -implicitDefEqProofs only[go_sem,seval])) (fun _=>rfl) (fun r3=>?_)
  |with_reducible refine ak (fun _(h:fV b_0 r3.2.1 true (aL.mk [111,98,106])=some _)=>kJ h) (fun r4=>?_)
  |with_reducible refine ae (fun _(h:fV b_0 r3.2.1 true (aL.mk [111,98,106])=some _)=>kJ h) (fun _=>rfl) (fun r4=>?_)
  |with_reducible refine ak (fun _(h:fV b_0 r3.2.1 true (aL.mk [111,98,106])=some _)=>(by refine al ?_ (kJ h);simp -implicitDefEqProofs only[go_sem,seval])) (fun r4=>?_)
  |with_reducible refine ae (fun _(h:fV b_0 r3.2.1 true (aL.mk [111,98,106])=some _)=>(by refine al ?_ (kJ h);simp -implicitDefEqProofs only[go_sem,seval])) (fun _=>rfl) (fun r4=>?_)
  |simp -implicitDefEqProofs only[go_sem,seval])
theorem Dj{b_0 at_1}{s:ab}{r:Int}(h:kB b_0 at_1=some r):FE Go.Proofs.Tryz.prog 33 [.sl false 1 b_0.length (flat b_0),.int .i64 at_1] s [.int .i64 r] s:=Dk ⟨r,h,rfl,rfl⟩
structure nG where
 dX:(List Int)
 xp:Int
instance:a8 nG:=⟨2,fun x=>[.sl false 1 x.dX.length (flat x.dX),.int .i64 x.xp],(nG.mk [] 0),by decide,fun _=>rfl,fun _=>rfl⟩
def mT(a_0:nG)(b_1:nG):Option (Bool):=
 if((a_0.dX.length:Int)!=(b_1.dX.length:Int))||(a_0.xp !=b_1.xp)then
  some false
 else
  xR (
   oD (
    iter (fun(k2:Int)=>
     if decide (k2<(a_0.dX.length:Int))then
      bq (0≤k2∧k2<a_0.dX.length)<|
      bq (0≤k2∧k2<b_1.dX.length)<|
      if(ix a_0.dX k2)!=(ix b_1.dX k2)then
       some (.inr (.inr false))
      else
       some (.inl (az (k2+1)))
     else
      some (.inr (.inl ()))) 0) (fun(_:Unit)=>
    some (.inl ()))
   (fun(t3:Bool)=>some (.inr t3))) (fun(_:Unit)=>
   some true)
  (fun(t1:Bool)=>some t1)
def ub:IC:=
 (aj [i1 2 (.lZ 2 (.t 0)),i1 3 (.lZ 2 (.t 1)),dT 4 (.bool false)] [2,3]
 (.seq (aj [fa 6 0 2,ld 7 1 6,le 8 0 7,fa 9 0 3,ld 10 1 9,le 11 0 10,bt 12 .neq 8 11,mv 13 12,fg 14 13 false 1 2,lg 15 13 false 1 14,fg 16 13 false 1 3,lg 17 13 false 1 16,Ap 18 13 false .neq 15 17,po 19 13 18] [2,3,19]
 (.cond (.t 19) (aj [dT 4 (.bool false)] [4]
 .ret)
 .skip))
 (.join [] (aj [mi 5 0] [2,3,5]
 (.block 0 (.loop [(2,false),(3,false),(5,false)] (.seq (aj [mv 20 5,fa 21 0 2,ld 22 1 21,le 23 0 22,bt 24 .lss 20 23] [2,3,5,24]
 (.cond (.t 24) .skip
 (.exit 0)))
 (.seq (.block 1 (.seq (.cU (some 11) [fa 27 0 2,ld 28 1 27,mv 29 5,ia 30 oz 28 29,ld 31 1 30,fa 32 0 3,ld 33 1 32,mv 34 5,ia 35 oz 33 34,ld 36 1 35,bt 37 .neq 31 36] [2,3,5,37])
 (.cond (.t 37) (aj [dT 4 (.bool false)] [4]
 .ret)
 .skip)))
 (.cU none [mv 25 5,bn 26 .add 25 1,mv 5 26] [2,3,5]))))))
 (aj [dT 4 (.bool true)] [4]
 .ret))))
def sI:List bj:=[⟨4,true,none⟩]
theorem CX:bG Go.Proofs.Tryz.prog 11 38 sI ub=true:=by kernel_rfl
theorem Di{a_0 b_1}{s:ab}{Q:List AV→ab→Prop}:ok (mT a_0 b_1) (fun r=>Q [.bool r] s)→FN Go.Proofs.Tryz.prog 11 [.agg [.sl false 1 a_0.dX.length (flat a_0.dX),.int .i64 a_0.xp],.agg [.sl false 1 b_1.dX.length (flat b_1.dX),.int .i64 b_1.xp]] s Q:=by
 intro h
 refine FN.of (ay mix) CX rfl (Nat.le_of_ble_eq_true rfl) ?_
 revert h
 rw[ub,sI,mT]
 repeat'(first
  |with_reducible exact bI
  |with_reducible refine aU ?_ ?_
  |with_reducible exact aV
  |with_reducible refine bN ?_
  |((with_reducible refine dp (fun(k2:Int)=>⟨[(2,.loc [.sl false 1 a_0.dX.length (flat a_0.dX),.int .i64 a_0.xp]),(3,.loc [.sl false 1 b_1.dX.length (flat b_1.dX),.int .i64 b_1.xp]),(5,.int .i64 k2)],[],s⟩) ?_ ?_);(first|exact rfl|simp -implicitDefEqProofs only[go_sem,seval]);rintro J k2)
  |((with_reducible refine dh (fun(_:Unit)=>⟨[],[],s⟩) (fun J=>?_) ?_);rotate_left;rintro _)
  |simp -implicitDefEqProofs only[go_sem,seval])
theorem Dh{a_0 b_1}{s:ab}{r:Bool}(h:mT a_0 b_1=some r):FE Go.Proofs.Tryz.prog 11 [.agg [.sl false 1 a_0.dX.length (flat a_0.dX),.int .i64 a_0.xp],.agg [.sl false 1 b_1.dX.length (flat b_1.dX),.int .i64 b_1.xp]] s [.bool r] s:=Di ⟨r,h,rfl,rfl⟩
end Go.AB
end
