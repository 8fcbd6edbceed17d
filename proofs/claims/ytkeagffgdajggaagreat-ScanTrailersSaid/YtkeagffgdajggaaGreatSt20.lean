/- A part. -/
import Derived.Test.YtkeagffgdajggaaGreatSt19
set_option linter.unusedSimpArgs false
set_option linter.unusedVariables false
section
set_option maxRecDepth 4000
namespace Go.AB
open Go
open Go.Proofs.Tryz (prog)
attribute[-go_sem] cV dB cg cU Nat.add_zero tz du
def tg(b_0:(List UInt8))(ay:Int):Option (Int×Bool):=
 aH (0<=ay/\ay<b_0.length)<|
 aH ((!(decide (((ix b_0 ay).toNat:Int)<48)))=true->0<=ay/\ay<b_0.length)<|
 if(decide (((ix b_0 ay).toNat:Int)<48))||(decide (((ix b_0 ay).toNat:Int)>57))then
  some (0,false)
 else
  ba (gu b_0 ay true) fun r1=>
  if((r1.2.2 !=0)||(decide (r1.1<1)))||(decide (r1.1>4096))then
   some (0,false)
  else
   ba (gu b_0 r1.2.1 true) fun r2=>
   if(r2.2.2 !=0)||(r2.1 !=0)then
    some (0,false)
   else
    ba (mW b_0 r2.2.1 true (aC.mk [111,98,106])) fun r3=>
    some (r1.1,r3.2==0)
def wI:IC:=
 (ag [mi 4 0,cY 5 (.bool false)] [0,1]
 (.seq (ag [mv 9 0,mv 10 1,ia 11 [.int .u8 0] 9 10,ld 12 1 11,bu 13 .lss 12 48,mv 14 13,bK 15 0 14 false,bK 16 1 14 false,b6 17 14 false (.indexAddr [.int .u8 0] (.t 15) (.t 16)),lg 18 14 false 1 17,b6 19 14 false (.bin .gtr (.t 18) (.c (.int .u8 57))),po 20 14 19] [0,1,20]
 (.cond (.t 20) (ag [mi 4 0,cY 5 (.bool false)] [4,5]
 .ret)
 .skip))
 (ag [mv 22 0,mv 23 1,i1 24 (.call 69 [(.t 22),(.t 23),(.c (.bool true))]),jJ 21 24,ex 25 21 0,ex 26 21 1,ex 27 21 2,mv 6 25,mv 1 26,mv 7 27] [0,1,6,7]
 (.seq (ag [mv 28 7,bn 29 .neq 28 0,mv 30 29,bK 31 6 30 false,im 32 30 false .lss 31 1,po 33 30 32,mv 34 33,bK 35 6 34 false,im 36 34 false .gtr 35 4096,po 37 34 36] [0,1,6,37]
 (.cond (.t 37) (ag [mi 4 0,cY 5 (.bool false)] [4,5]
 .ret)
 .skip))
 (ag [mv 39 0,mv 40 1,i1 41 (.call 69 [(.t 39),(.t 40),(.c (.bool true))]),jJ 38 41,ex 42 38 0,ex 43 38 1,ex 44 38 2,mv 8 42,mv 1 43,mv 7 44] [0,1,6,7,8]
 (.seq (ag [mv 45 7,bn 46 .neq 45 0,mv 47 46,bK 48 8 47 false,im 49 47 false .neq 48 0,po 50 47 49] [0,1,6,50]
 (.cond (.t 50) (ag [mi 4 0,cY 5 (.bool false)] [4,5]
 .ret)
 .skip))
 (ag [mt 52 0,mv 53 1,i1 54 (.call 70 [(.t 52),(.t 53),(.c (.bool true)),(.c (.str [111,98,106]))]),jJ 51 54,ex 55 51 0,ex 56 51 1,mv 7 56] [6,7]
 (ag [mv 57 6,mv 58 7,bn 59 .eql 58 0,mv 4 57,mv 5 59] [4,5]
 .ret))))))))
theorem GH:aY prog 32 60 [⟨4,true,none⟩,⟨5,true,none⟩] wI=true:=by kernel_rfl
theorem HD{b_0 ay}{s:ab}{Q:List AV->ab->Prop}:ok (tg b_0 ay) (fun r=>Q [.int .i64 r.1,.bool r.2] s)->FN prog 32 [sF 1 b_0,.int .i64 ay] s Q:=by
 intro h
 refine FO GH rfl rfl ?_
 revert h
 rw[wI,tg]
 repeat'(first
  |(with_reducible first|exact dh|refine b9 ?_ ?_|refine dT ?_|refine ax (fun _(h:gu b_0 ay true=some _)=>qA h) (fun r1=>?_)|refine ax (fun _(h:gu b_0 r1.2.1 true=some _)=>qA h) (fun r2=>?_)|refine ax (fun _(h:mW b_0 r2.2.1 true (aC.mk [111,98,106])=some _)=>D8 h) (fun r3=>?_))
  |simp -implicitDefEqProofs only[go_sem,seval])
theorem HC{b_0 ay}{s:ab}{r:Int×Bool}(h:tg b_0 ay=some r):FE prog 32 [sF 1 b_0,.int .i64 ay] s [.int .i64 r.1,.bool r.2] s:=HD ⟨r,h,rfl,rfl⟩
def cX(c_0:UInt8):Option (Bool):=
 jn (
  if(c_0.toNat:Int)==0 then
   some ((c_0.toNat:Int)==0)
  else
   if(c_0.toNat:Int)==9 then
    some ((c_0.toNat:Int)==9)
   else
    if(c_0.toNat:Int)==10 then
     some ((c_0.toNat:Int)==10)
    else
     if(c_0.toNat:Int)==12 then
      some ((c_0.toNat:Int)==12)
     else
      if(c_0.toNat:Int)==13 then
       some ((c_0.toNat:Int)==13)
      else
       some ((c_0.toNat:Int)==32)) fun(t1:Bool)=>
 if t1 then
  some true
 else
  some false
def rH:IC:=
 (ag [cY 2 (.bool false)] [0]
 (.seq (ag [mv 3 0] [3]
 (.block 0 (.join [(4,false)] (ag [bu 5 .eql 3 0,mv 4 5] [3,4]
 (.cond (.t 4) .skip
 (ag [bu 6 .eql 3 9,mv 4 6] [3,4]
 (.cond (.t 4) .skip
 (ag [bu 7 .eql 3 10,mv 4 7] [3,4]
 (.cond (.t 4) .skip
 (ag [bu 8 .eql 3 12,mv 4 8] [3,4]
 (.cond (.t 4) .skip
 (ag [bu 9 .eql 3 13,mv 4 9] [3,4]
 (.cond (.t 4) .skip
 (.bP none [bu 10 .eql 3 32,mv 4 10] [4])))))))))))
 (.cond (.t 4) (ag [cY 2 (.bool true)] [2]
 .ret)
 .skip))))
 (ag [cY 2 (.bool false)] [2]
 .ret)))
theorem Cd:aY prog 78 11 [⟨2,true,none⟩] rH=true:=by kernel_rfl
theorem CY{c_0}{s:ab}{Q:List AV->ab->Prop}:ok (cX c_0) (fun r=>Q [.bool r] s)->FN prog 78 [.int .u8 c_0.toNat] s Q:=by
 intro h
 refine FO Cd rfl rfl ?_
 revert h
 rw[rH,cX]
 repeat'(first
  |((with_reducible refine dI (fun(t1:Bool)=>⟨[(4,.bool t1)],[],s⟩) (fun J=>?_) ?_);rotate_left;rintro t1)
  |simp -implicitDefEqProofs only[go_sem,seval])
theorem ke{c_0}{s:ab}{r:Bool}(h:cX c_0=some r):FE prog 78 [.int .u8 c_0.toNat] s [.bool r] s:=CY ⟨r,h,rfl,rfl⟩
def da(c_0:UInt8):Option (Bool):=
 jn (
  if(c_0.toNat:Int)==40 then
   some ((c_0.toNat:Int)==40)
  else
   if(c_0.toNat:Int)==41 then
    some ((c_0.toNat:Int)==41)
   else
    if(c_0.toNat:Int)==60 then
     some ((c_0.toNat:Int)==60)
    else
     if(c_0.toNat:Int)==62 then
      some ((c_0.toNat:Int)==62)
     else
      if(c_0.toNat:Int)==91 then
       some ((c_0.toNat:Int)==91)
      else
       if(c_0.toNat:Int)==93 then
        some ((c_0.toNat:Int)==93)
       else
        if(c_0.toNat:Int)==123 then
         some ((c_0.toNat:Int)==123)
        else
         if(c_0.toNat:Int)==125 then
          some ((c_0.toNat:Int)==125)
         else
          if(c_0.toNat:Int)==47 then
           some ((c_0.toNat:Int)==47)
          else
           some ((c_0.toNat:Int)==37)) fun(t1:Bool)=>
 if t1 then
  some true
 else
  some false
def rG:IC:=
 (ag [cY 2 (.bool false)] [0]
 (.seq (ag [mv 3 0] [3]
 (.block 0 (.join [(4,false)] (ag [bu 5 .eql 3 40,mv 4 5] [3,4]
 (.cond (.t 4) .skip
 (ag [bu 6 .eql 3 41,mv 4 6] [3,4]
 (.cond (.t 4) .skip
 (ag [bu 7 .eql 3 60,mv 4 7] [3,4]
 (.cond (.t 4) .skip
 (ag [bu 8 .eql 3 62,mv 4 8] [3,4]
 (.cond (.t 4) .skip
 (ag [bu 9 .eql 3 91,mv 4 9] [3,4]
 (.cond (.t 4) .skip
 (ag [bu 10 .eql 3 93,mv 4 10] [3,4]
 (.cond (.t 4) .skip
 (ag [bu 11 .eql 3 123,mv 4 11] [3,4]
 (.cond (.t 4) .skip
 (ag [bu 12 .eql 3 125,mv 4 12] [3,4]
 (.cond (.t 4) .skip
 (ag [bu 13 .eql 3 47,mv 4 13] [3,4]
 (.cond (.t 4) .skip
 (.bP none [bu 14 .eql 3 37,mv 4 14] [4])))))))))))))))))))
 (.cond (.t 4) (ag [cY 2 (.bool true)] [2]
 .ret)
 .skip))))
 (ag [cY 2 (.bool false)] [2]
 .ret)))
theorem Cc:aY prog 79 15 [⟨2,true,none⟩] rG=true:=by kernel_rfl
theorem CX{c_0}{s:ab}{Q:List AV->ab->Prop}:ok (da c_0) (fun r=>Q [.bool r] s)->FN prog 79 [.int .u8 c_0.toNat] s Q:=by
 intro h
 refine FO Cc rfl rfl ?_
 revert h
 rw[rG,da]
 repeat'(first
  |((with_reducible refine dI (fun(t1:Bool)=>⟨[(4,.bool t1)],[],s⟩) (fun J=>?_) ?_);rotate_left;rintro t1)
  |simp -implicitDefEqProofs only[go_sem,seval])
theorem mY{c_0}{s:ab}{r:Bool}(h:da c_0=some r):FE prog 79 [.int .u8 c_0.toNat] s [.bool r] s:=CX ⟨r,h,rfl,rfl⟩
def fA(b_0:(List UInt8))(ay:Int):Option (Bool):=
 aH ((!(ay==0))=true->0<=ao (ay -1)/\ao (ay -1)<b_0.length)<|
 ba (dQ (!(ay==0)) false (cX (ix b_0 (ao (ay -1))))) fun r1=>
 aH ((!((ay==0)||r1))=true->0<=ao (ay -1)/\ao (ay -1)<b_0.length)<|
 ba (dQ (!((ay==0)||r1)) false (da (ix b_0 (ao (ay -1))))) fun r2=>
 some (((ay==0)||r1)||r2)
def qw:IC:=
 (ag [cY 4 (.bool false)] [0,1]
 (.seq (.bP (some 17) [mv 5 1,bn 6 .eql 5 0,mv 7 6,bK 8 0 7 false,bK 9 1 7 false,im 10 7 false .sub 9 1,b6 11 7 false (.indexAddr [.int .u8 0] (.t 8) (.t 10)),lg 12 7 false 1 11,Fm 13 7 false 78 12,po 14 7 13,mv 15 14,bK 16 0 15 false,bK 17 1 15 false,im 18 15 false .sub 17 1,b6 19 15 false (.indexAddr [.int .u8 0] (.t 16) (.t 18)),lg 20 15 false 1 19,Fm 21 15 false 79 20,po 22 15 21,mv 4 22] [4])
 .ret))
theorem Ah:aY prog 38 23 [⟨4,true,none⟩] qw=true:=by kernel_rfl
theorem Ay{b_0 ay}{s:ab}{Q:List AV->ab->Prop}:ok (fA b_0 ay) (fun r=>Q [.bool r] s)->FN prog 38 [sF 1 b_0,.int .i64 ay] s Q:=by
 intro h
 refine FO Ah rfl rfl ?_
 revert h
 rw[qw,fA]
 repeat'(first
  |(with_reducible first|exact dh|refine b9 ?_ ?_|refine c8 rfl (fun _(h:cX (ix b_0 (ao (ay -1)))=some _)=>ke h) (fun _=>rfl) (fun r1=>?_)|refine c8 rfl (fun _(h:da (ix b_0 (ao (ay -1)))=some _)=>mY h) (fun _=>rfl) (fun r2=>?_))
  |simp -implicitDefEqProofs only[go_sem,seval])
theorem Ax{b_0 ay}{s:ab}{r:Bool}(h:fA b_0 ay=some r):FE prog 38 [sF 1 b_0,.int .i64 ay] s [.bool r] s:=Ay ⟨r,h,rfl,rfl⟩
structure aK where
 Kind:Int
 bA:Int
 To:Int
 V:aa
 S:aC
instance:aR aK:=⟨8,fun x=>[.int .i64 x.Kind,.int .i64 x.bA,.int .i64 x.To,.int .i64 x.V.Kind,.int .i64 x.V.N,.str x.V.S.b,sF 4 x.V.L,.str x.S.b],(aK.mk 0 0 0 (aa.mk 0 0 (aC.mk []) []) (aC.mk [])),by decide,fun _=>rfl,fun _=>rfl⟩
def jo(b_0:(List UInt8))(ay:Int):Option (Int):=
 if decide (ay<0)then
  some 0
 else
  oU (
   kU (
    iter (fun(at3:Int)=>
     if decide (at3<(b_0.length:Int))then
      aH (0<=at3/\at3<b_0.length)<|
      ba (cX (ix b_0 at3)) fun r6=>
      if r6 then
       some (.inl (ao (at3+1)))
      else
       aH (0<=at3/\at3<b_0.length)<|
       if((ix b_0 at3).toNat:Int)!=37 then
        some (.inr (.inr at3))
       else
        ba (
         iter (fun(at7:Int)=>
          aH ((decide (at7<(b_0.length:Int)))=true->0<=at7/\at7<b_0.length)<|
          aH (((decide (at7<(b_0.length:Int)))&&(((ix b_0 at7).toNat:Int)!=10))=true->0<=at7/\at7<b_0.length)<|
          if((decide (at7<(b_0.length:Int)))&&(((ix b_0 at7).toNat:Int)!=10))&&(((ix b_0 at7).toNat:Int)!=13)then
           some (.inl (ao (at7+1)))
          else
           some (.inr at7)) at3) fun(at9:Int)=>
        some (.inl at9)
     else
      some (.inr (.inl ()))) ay) (fun(_:Unit)=>
    some (.inl ()))
   (fun(t5:Int)=>some (.inr t5))) (fun(_:Unit)=>
   some (b_0.length:Int))
  (fun(t2:Int)=>some t2)
def uh:IC:=
 (ag [mi 4 0] [0,1]
 (.seq (ag [mv 5 1,bn 6 .lss 5 0] [0,1,6]
 (.cond (.t 6) (ag [mi 4 0] [4]
 .ret)
 .skip))
 (.join [(0,true)] (.block 0 (.loop [(0,true),(1,false)] (.seq (ag [mv 7 1,mv 8 0,le 9 0 8,bt 10 .lss 7 9] [0,1,10]
 (.cond (.t 10) .skip
 (.exit 0)))
 (.block 1 (.seq (ag [mv 11 0,mv 12 1,ia 13 [.int .u8 0] 11 12,ld 14 1 13,c1 15 78 14] [0,1,15]
 (.cond (.t 15) (ag [mv 16 1,bn 17 .add 16 1,mv 1 17] [0,1]
 (.exit 1))
 .skip))
 (.seq (ag [mv 18 0,mv 19 1,ia 20 [.int .u8 0] 18 19,ld 21 1 20,bu 22 .neq 21 37] [0,1,22]
 (.cond (.t 22) (ag [mv 23 1,mv 4 23] [4]
 .ret)
 .skip))
 (.block 2 (.loop [(0,true),(1,false)] (.seq (ag [mv 24 1,mv 25 0,le 26 0 25,bt 27 .lss 24 26,mv 28 27,bK 29 0 28 true,bK 30 1 28 true,b6 31 28 true (.indexAddr [.int .u8 0] (.t 29) (.t 30)),lg 32 28 true 1 31,b6 33 28 true (.bin .neq (.t 32) (.c (.int .u8 10))),pf 34 28 33,mv 35 34,bK 36 0 35 true,bK 37 1 35 true,b6 38 35 true (.indexAddr [.int .u8 0] (.t 36) (.t 37)),lg 39 35 true 1 38,b6 40 35 true (.bin .neq (.t 39) (.c (.int .u8 13))),pf 41 35 40] [0,1,41]
 (.cond (.t 41) .skip
 (.exit 2)))
 (.block 3 (.bP none [mv 42 1,bn 43 .add 42 1,mv 1 43] [0,1])))))))))))
 (ag [mt 44 0,le 45 0 44,mv 4 45] [4]
 .ret))))
theorem DW:aY prog 131 46 [⟨4,true,none⟩] uh=true:=by kernel_rfl
theorem Ej{b_0 ay}{s:ab}{Q:List AV->ab->Prop}:ok (jo b_0 ay) (fun r=>Q [.int .i64 r] s)->FN prog 131 [sF 1 b_0,.int .i64 ay] s Q:=by
 intro h
 refine FO DW rfl rfl ?_
 revert h
 rw[uh,jo]
 repeat'(first
  |(with_reducible first|exact dh|refine b9 ?_ ?_|refine dT ?_|refine ax (fun _(h:cX (ix b_0 at3)=some _)=>ke h) (fun r6=>?_))
  |(have _g:=at3;clear _g;(with_reducible refine ch (fun(at7:Int)=>⟨[(0,sF 1 b_0),(1,.int .i64 at7)],[],s⟩) ?_ ?_);(first|exact rfl|simp -implicitDefEqProofs only[go_sem,seval]);rintro J at7)
  |((with_reducible refine ch (fun(at3:Int)=>⟨[(0,sF 1 b_0),(1,.int .i64 at3)],[],s⟩) ?_ ?_);(first|exact rfl|simp -implicitDefEqProofs only[go_sem,seval]);rintro J at3)
  |((with_reducible refine bV (fun(_:Unit)=>⟨[(0,sF 1 b_0)],[],s⟩) (fun J=>?_) ?_);rotate_left;rintro _)
  |simp -implicitDefEqProofs only[go_sem,seval])
theorem Ei{b_0 ay}{s:ab}{r:Int}(h:jo b_0 ay=some r):FE prog 131 [sF 1 b_0,.int .i64 ay] s [.int .i64 r] s:=Ej ⟨r,h,rfl,rfl⟩
def ir(b_0:(List UInt8))(ay:Int):Option (Int):=
 jn (
  iter (fun(at2:Int)=>
   aH ((decide (at2<(b_0.length:Int)))=true->0<=at2/\at2<b_0.length)<|
   ba (dQ (decide (at2<(b_0.length:Int))) false (cX (ix b_0 at2))) fun r4=>
   aH (((decide (at2<(b_0.length:Int)))&&(!r4))=true->0<=at2/\at2<b_0.length)<|
   ba (dQ ((decide (at2<(b_0.length:Int)))&&(!r4)) false (da (ix b_0 at2))) fun r5=>
   if((decide (at2<(b_0.length:Int)))&&(!r4))&&(!r5)then
    some (.inl (ao (at2+1)))
   else
    some (.inr at2)) ay) fun(at1:Int)=>
 some at1
def wD:IC:=
 (ag [mi 4 0] [0,1]
 (.join [(1,false)] (.block 0 (.loop [(0,true),(1,false)] (.seq (.seq (.bP (some 18) [mv 5 1,mv 6 0,le 7 0 6,bt 8 .lss 5 7,mv 9 8,bK 10 0 9 true,bK 11 1 9 true,b6 12 9 true (.indexAddr [.int .u8 0] (.t 10) (.t 11)),lg 13 9 true 1 12,Fm 14 9 true 78 13,b6 15 9 true (.un .not (.t 14)),pf 16 9 15,mv 17 16,bK 18 0 17 true,bK 19 1 17 true,b6 20 17 true (.indexAddr [.int .u8 0] (.t 18) (.t 19)),lg 21 17 true 1 20,Fm 22 17 true 79 21,b6 23 17 true (.un .not (.t 22)),pf 24 17 23] [0,1,24])
 (.cond (.t 24) .skip
 (.exit 0)))
 (.block 1 (.bP none [mv 25 1,bn 26 .add 25 1,mv 1 26] [0,1])))))
 (ag [mv 27 1,mv 4 27] [4]
 .ret)))
theorem GB:aY prog 132 28 [⟨4,true,none⟩] wD=true:=by kernel_rfl
theorem Hp{b_0 ay}{s:ab}{Q:List AV->ab->Prop}:ok (ir b_0 ay) (fun r=>Q [.int .i64 r] s)->FN prog 132 [sF 1 b_0,.int .i64 ay] s Q:=by
 intro h
 refine FO GB rfl rfl ?_
 revert h
 rw[wD,ir]
 repeat'(first
  |(with_reducible first|exact dh|refine b9 ?_ ?_|refine c8 rfl (fun _(h:cX (ix b_0 at2)=some _)=>ke h) (fun _=>rfl) (fun r4=>?_)|refine c8 rfl (fun _(h:da (ix b_0 at2)=some _)=>mY h) (fun _=>rfl) (fun r5=>?_))
  |((with_reducible refine ch (fun(at2:Int)=>⟨[(0,sF 1 b_0),(1,.int .i64 at2)],[],s⟩) ?_ ?_);(first|exact rfl|simp -implicitDefEqProofs only[go_sem,seval]);rintro J at2)
  |((with_reducible refine dI (fun(at1:Int)=>⟨[(1,.int .i64 at1)],[],s⟩) (fun J=>?_) ?_);rotate_left;rintro at1)
  |simp -implicitDefEqProofs only[go_sem,seval])
theorem xm{b_0 ay}{s:ab}{r:Int}(h:ir b_0 ay=some r):FE prog 132 [sF 1 b_0,.int .i64 ay] s [.int .i64 r] s:=Hp ⟨r,h,rfl,rfl⟩
def db(c_0:UInt8):Option (Int):=
 if(decide ((c_0.toNat:Int)>=48))&&(decide ((c_0.toNat:Int)<=57))then
  some (ao ((ao ((c_0.toNat:Int))) -48))
 else
  if(decide ((c_0.toNat:Int)>=97))&&(decide ((c_0.toNat:Int)<=102))then
   some (ao ((ao ((c_0.toNat:Int))) -87))
  else
   if(decide ((c_0.toNat:Int)>=65))&&(decide ((c_0.toNat:Int)<=70))then
    some (ao ((ao ((c_0.toNat:Int))) -55))
   else
    some (-1)
def wC:IC:=
 (ag [mi 2 0] [0]
 (.seq (ag [mv 3 0,bu 4 .geq 3 48,mv 5 4,bK 6 0 5 true,b6 7 5 true (.bin .leq (.t 6) (.c (.int .u8 57))),pf 8 5 7] [0,8]
 (.cond (.t 8) (ag [mv 9 0,i1 10 (.cC .i64 (.t 9)),bn 11 .sub 10 48,mv 2 11] [2]
 .ret)
 .skip))
 (.seq (ag [mv 12 0,bu 13 .geq 12 97,mv 14 13,bK 15 0 14 true,b6 16 14 true (.bin .leq (.t 15) (.c (.int .u8 102))),pf 17 14 16] [0,17]
 (.cond (.t 17) (ag [mv 18 0,i1 19 (.cC .i64 (.t 18)),bn 20 .sub 19 87,mv 2 20] [2]
 .ret)
 .skip))
 (.seq (ag [mv 21 0,bu 22 .geq 21 65,mv 23 22,bK 24 0 23 true,b6 25 23 true (.bin .leq (.t 24) (.c (.int .u8 70))),pf 26 23 25] [0,26]
 (.cond (.t 26) (ag [mv 27 0,i1 28 (.cC .i64 (.t 27)),bn 29 .sub 28 55,mv 2 29] [2]
 .ret)
 .skip))
 (ag [mi 2 (-1)] [2]
 .ret)))))
theorem GA:aY prog 185 30 [⟨2,true,none⟩] wC=true:=by kernel_rfl
theorem Ho{c_0}{s:ab}{Q:List AV->ab->Prop}:ok (db c_0) (fun r=>Q [.int .i64 r] s)->FN prog 185 [.int .u8 c_0.toNat] s Q:=by
 intro h
 refine FO GA rfl rfl ?_
 revert h
 rw[wC,db]
 repeat'(first
  |simp -implicitDefEqProofs only[go_sem,seval])
theorem iq{c_0}{s:ab}{r:Int}(h:db c_0=some r):FE prog 185 [.int .u8 c_0.toNat] s [.int .i64 r] s:=Ho ⟨r,h,rfl,rfl⟩
def gG(ve:Bool):Option (Int):=
 if ve then
  some 10
 else
  some 6
def wB:IC:=
 (ag [mi 2 0] [0]
 (.seq (ag [mv 3 0] [3]
 (.cond (.t 3) (ag [mi 2 10] [2]
 .ret)
 .skip))
 (ag [mi 2 6] [2]
 .ret)))
theorem Gz:aY prog 186 4 [⟨2,true,none⟩] wB=true:=by kernel_rfl
theorem Hn{ve}{s:ab}{Q:List AV->ab->Prop}:ok (gG ve) (fun r=>Q [.int .i64 r] s)->FN prog 186 [.bool ve] s Q:=by
 intro h
 refine FO Gz rfl rfl ?_
 revert h
 rw[wB,gG]
 repeat'(first
  |simp -implicitDefEqProofs only[go_sem,seval])
theorem pZ{ve}{s:ab}{r:Int}(h:gG ve=some r):FE prog 186 [.bool ve] s [.int .i64 r] s:=Hn ⟨r,h,rfl,rfl⟩
def gW(b_0:(List UInt8))(ay:Int)(aj:Bool):Option ((List UInt8)×Int×Int):=
 oU (
  kU (
   iter (fun((at5,jR):Int×(List Int))=>
    if decide (at5<(b_0.length:Int))then
     aH (0<=at5/\at5<b_0.length)<|
     oU (
      if((ix b_0 at5).toNat:Int)==62 then
       jn (
        if(Int.tmod (jR.length:Int) 2)==1 then
         aH ((jR.length+[0].length)*8<=room)<|
         some (jR++[0])
        else
         some jR) fun(gO:(List Int))=>
       jn (
        iter (fun((zM,k24):(List UInt8)×Int)=>
         if decide (k24<(gO.length:Int))then
          aH (0<=k24/\k24<gO.length)<|
          aH (0<=ao (k24+1)/\ao (k24+1)<gO.length)<|
          aH ((zM.length+[oq (ao ((ao (16*(ix gO k24)))+(ix gO (ao (k24+1)))))].length)*1<=room)<|
          some (.inl (zM++[oq (ao ((ao (16*(ix gO k24)))+(ix gO (ao (k24+1)))))],ao (k24+2)))
         else
          some (.inr zM)) (([]:List UInt8),0)) fun(Mi:(List UInt8))=>
       some (.inr (Mi,ao (at5+1),(0:Int)))
      else
       some (.inl ())) (fun(_:Unit)=>
      ba (cX (ix b_0 at5)) fun r27=>
      if r27 then
       some (.inl (ao (at5+1),jR))
      else
       ba (db (ix b_0 at5)) fun r28=>
       if decide (r28<0)then
        some (.inr (.inr (([]:List UInt8),(0:Int),(11:Int))))
       else
        ba (db (ix b_0 at5)) fun r29=>
        aH ((jR.length+[r29].length)*8<=room)<|
        some (.inl (ao (at5+1),jR++[r29])))
     (fun((t16,t17,t18):(List UInt8)×Int×Int)=>some (.inr (.inr (t16,t17,t18))))
    else
     some (.inr (.inl ()))) (ay,([]:List Int))) (fun(_:Unit)=>
   some (.inl ()))
  (fun((t8,t9,t10):(List UInt8)×Int×Int)=>some (.inr (t8,t9,t10)))) (fun(_:Unit)=>
  ba (gG aj) fun r30=>
  some (([]:List UInt8),0,r30))
 (fun((t2,t3,t4):(List UInt8)×Int×Int)=>some (t2,t3,t4))
def rI:IC:=
 (ag [i1 6 (.iJ true (.c (.sl true 1 0 []))),mi 7 0,mi 8 0] [0,1,2]
 (ag [i1 9 (.iJ true (.c (.sl true 1 0 [])))] [0,1,2,9]
 (.join [(2,false)] (.block 0 (.loop [(0,true),(1,false),(2,false),(9,false)] (.seq (ag [mv 13 1,mv 14 0,le 15 0 14,bt 16 .lss 13 15] [0,1,2,9,16]
 (.cond (.t 16) .skip
 (.exit 0)))
 (.block 1 (ag [mv 17 0,mv 18 1,ia 19 [.int .u8 0] 17 18,ld 20 1 19,mv 10 20] [0,1,2,9,10]
 (ag [mv 21 1,bn 22 .add 21 1,mv 1 22] [0,1,2,9,10]
 (.join [(0,true),(1,false),(2,false),(9,false),(10,false)] (ag [mv 23 10,bu 24 .eql 23 62] [0,1,2,9,10,24]
 (.cond (.t 24) (.join [(1,false),(9,false)] (ag [mv 25 9,le 26 0 25,bn 27 .rem 26 2,bn 28 .eql 27 1] [1,9,28]
 (.cond (.t 28) (.bP none [mt 29 9,i1 30 (.bB 1 1 vm [(0,1,(.c (.int .i64 0)))]),JA 31 1 8 29 30,mt 9 31] [1,9])
 .skip))
 (ag [i1 11 (.iJ true (.c (.sl true 1 0 [])))] [1,9,11]
 (.join [(1,false),(11,false)] (ag [mi 12 0] [1,9,11,12]
 (.block 2 (.loop [(1,false),(9,false),(11,false),(12,false)] (.seq (ag [mv 32 12,mv 33 9,le 34 0 33,bt 35 .lss 32 34] [1,9,11,12,35]
 (.cond (.t 35) .skip
 (.exit 2)))
 (.seq (.block 3 (.bP (some 14) [mt 38 11,mv 39 9,mv 40 12,ia 41 vm 39 40,ld 42 1 41,i1 43 (.bin .mul (.c (.int .i64 16)) (.t 42)),mv 44 9,mv 45 12,bn 46 .add 45 1,ia 47 vm 44 46,ld 48 1 47,bt 49 .add 43 48,i1 50 (.cC .u8 (.t 49)),i1 51 (.bB 1 1 [.int .u8 0] [(0,1,(.t 50))]),JA 52 1 1 38 51,mt 11 52] [1,9,11,12]))
 (.bP none [mv 36 12,bn 37 .add 36 2,mv 12 37] [1,9,11,12]))))))
 (ag [mt 53 11,mv 54 1,mt 6 53,mv 7 54,mi 8 0] [6,7,8]
 .ret))))
 .skip))
 (.seq (ag [mv 55 10,c1 56 78 55] [0,1,2,9,10,56]
 (.cond (.t 56) (.exit 1)
 .skip))
 (.seq (ag [mv 57 10,c1 58 185 57,bn 59 .lss 58 0] [0,1,2,9,10,59]
 (.cond (.t 59) (ag [i1 6 (.iJ true (.c (.sl true 1 0 []))),mi 7 0,mi 8 11] [6,7,8]
 .ret)
 .skip))
 (.bP none [mt 60 9,mv 61 10,c1 62 185 61,i1 63 (.bB 1 1 vm [(0,1,(.t 62))]),JA 64 1 8 60 63,mt 9 64] [0,1,2,9]))))))))))
 (ag [mv 65 2,c1 66 186 65,i1 6 (.iJ true (.c (.sl true 1 0 []))),mi 7 0,mv 8 66] [6,7,8]
 .ret))))
theorem Ce:aY prog 133 67 [⟨6,true,none⟩,⟨7,true,none⟩,⟨8,true,none⟩] rI=true:=by kernel_rfl
theorem C0{b_0 ay aj}{s:ab}{Q:List AV->ab->Prop}:ok (gW b_0 ay aj) (fun r=>Q [sT 1 r.1,.int .i64 r.2.1,.int .i64 r.2.2] s)->FN prog 133 [sF 1 b_0,.int .i64 ay,.bool aj] s Q:=by
 intro h
 refine FO Ce rfl rfl ?_
 revert h
 rw[rI,gW]
 repeat'(first
  |(with_reducible first|exact dh|refine b9 ?_ ?_|refine dT ?_|refine ax (fun _(h:cX (ix b_0 at5)=some _)=>ke h) (fun r27=>?_))
  |((fail_if_success (have _x:=r28));with_reducible refine ax (fun _(h:db (ix b_0 at5)=some _)=>iq h) (fun r28=>?_))
  |((fail_if_success (have _x:=r29));with_reducible refine ax (fun _(h:db (ix b_0 at5)=some _)=>iq h) (fun r29=>?_))
  |with_reducible refine ax (fun _(h:gG aj=some _)=>pZ h) (fun r30=>?_)
  |((with_reducible refine dI (live:=[(1,false),(9,false)]) (fun(gO:(List Int))=>⟨[(1,.int .i64 (ao (at5+1))),(9,sT 1 gO)],[],s⟩) (fun J=>?_) ?_);rotate_left;rintro gO)
  |((with_reducible refine ch (fun((zM,k24):(List UInt8)×Int)=>⟨[(1,.int .i64 (ao (at5+1))),(9,sT 1 gO),(11,sT 1 zM),(12,.int .i64 k24)],[],s⟩) ?_ ?_);(first|exact rfl|simp -implicitDefEqProofs only[go_sem,seval]);rintro J ⟨zM,k24⟩)
  |((with_reducible refine dI (live:=[(1,false),(11,false)]) (fun(Mi:(List UInt8))=>⟨[(1,.int .i64 (ao (at5+1))),(11,sT 1 Mi)],[],s⟩) (fun J=>?_) ?_);rotate_left;rintro Mi)
  |((with_reducible refine bV (live:=[(0,true),(1,false),(2,false),(9,false),(10,false)]) (fun(_:Unit)=>⟨[(0,sF 1 b_0),(1,.int .i64 (ao (at5+1))),(2,.bool aj),(9,sT 1 jR),(10,.int .u8 (ix b_0 at5).toNat)],[],s⟩) (fun J=>?_) ?_);rotate_left;rintro _)
  |((with_reducible refine ch (fun((at5,jR):Int×(List Int))=>⟨[(0,sF 1 b_0),(1,.int .i64 at5),(2,.bool aj),(9,sT 1 jR)],[],s⟩) ?_ ?_);(first|exact rfl|simp -implicitDefEqProofs only[go_sem,seval]);rintro J ⟨at5,jR⟩)
  |((with_reducible refine bV (live:=[(2,false)]) (fun(_:Unit)=>⟨[(2,.bool aj)],[],s⟩) (fun J=>?_) ?_);rotate_left;rintro _)
  |simp -implicitDefEqProofs only[go_sem,seval])
theorem CZ{b_0 ay aj}{s:ab}{r:(List UInt8)×Int×Int}(h:gW b_0 ay aj=some r):FE prog 133 [sF 1 b_0,.int .i64 ay,.bool aj] s [sT 1 r.1,.int .i64 r.2.1,.int .i64 r.2.2] s:=C0 ⟨r,h,rfl,rfl⟩
def gv(b_0:(List UInt8))(ay:Int)(aj:Bool):Option (UInt8×Int×Bool×Int):=
 if decide (ay>=(b_0.length:Int))then
  ba (gG aj) fun r1=>
  some (0,0,false,r1)
 else
  aH (0<=ay/\ay<b_0.length)<|
  if((ix b_0 ay).toNat:Int)==110 then
   some (10,ao (ay+1),true,0)
  else
   if((ix b_0 ay).toNat:Int)==114 then
    some (13,ao (ay+1),true,0)
   else
    if((ix b_0 ay).toNat:Int)==116 then
     some (9,ao (ay+1),true,0)
    else
     if((ix b_0 ay).toNat:Int)==98 then
      some (8,ao (ay+1),true,0)
     else
      if((ix b_0 ay).toNat:Int)==102 then
       some (12,ao (ay+1),true,0)
      else
       if((ix b_0 ay).toNat:Int)==10 then
        some (0,ao (ay+1),false,0)
       else
        if((ix b_0 ay).toNat:Int)==13 then
         if(decide (ao (ay+1)>=(b_0.length:Int)))&&(!aj)then
          some (0,0,false,6)
         else
          aH ((decide (ao (ay+1)<(b_0.length:Int)))=true->0<=ao (ay+1)/\ao (ay+1)<b_0.length)<|
          if(decide (ao (ay+1)<(b_0.length:Int)))&&(((ix b_0 (ao (ay+1))).toNat:Int)==10)then
           some (0,ao (ay+2),false,0)
          else
           some (0,ao (ay+1),false,0)
        else
         if(decide (((ix b_0 ay).toNat:Int)<48))||(decide (((ix b_0 ay).toNat:Int)>55))then
          some (ix b_0 ay,ao (ay+1),true,0)
         else
          jn (
           iter (fun((n7,k8):Int×Int)=>
            aH (((decide (k8<3))&&(decide (ao (ay+k8)<(b_0.length:Int))))=true->0<=ao (ay+k8)/\ao (ay+k8)<b_0.length)<|
            aH ((((decide (k8<3))&&(decide (ao (ay+k8)<(b_0.length:Int))))&&(decide (((ix b_0 (ao (ay+k8))).toNat:Int)>=48)))=true->0<=ao (ay+k8)/\ao (ay+k8)<b_0.length)<|
            if(((decide (k8<3))&&(decide (ao (ay+k8)<(b_0.length:Int))))&&(decide (((ix b_0 (ao (ay+k8))).toNat:Int)>=48)))&&(decide (((ix b_0 (ao (ay+k8))).toNat:Int)<=55))then
             aH (0<=ao (ay+k8)/\ao (ay+k8)<b_0.length)<|
             some (.inl (ao ((ao ((ao (8*n7))+(ao (((ix b_0 (ao (ay+k8))).toNat:Int))))) -48),ao (k8+1)))
            else
             some (.inr (n7,k8))) (0,0)) fun((n5,k6):Int×Int)=>
          if((decide (k6<3))&&(decide (ao (ay+k6)>=(b_0.length:Int))))&&(!aj)then
           some (0,0,false,6)
          else
           some (oq (Int.tmod n5 256),ao (ay+k6),true,0)
def qu:IC:=
 (ag [cY 6 (.int .u8 0),mi 7 0,cY 8 (.bool false),mi 9 0] [0,1,2]
 (.seq (ag [mv 13 1,mv 14 0,le 15 0 14,bt 16 .geq 13 15] [0,1,2,16]
 (.cond (.t 16) (ag [mv 17 2,c1 18 186 17,cY 6 (.int .u8 0),mi 7 0,cY 8 (.bool false),mv 9 18] [6,7,8,9]
 .ret)
 .skip))
 (ag [mv 19 0,mv 20 1,ia 21 [.int .u8 0] 19 20,ld 22 1 21,mv 10 22] [0,1,2,10]
 (.seq (.block 0 (ag [mv 24 10,bu 25 .eql 24 110,mv 23 25] [0,1,2,10,23]
 (.cond (.t 23) (ag [mv 26 1,bn 27 .add 26 1,cY 6 (.int .u8 10),mv 7 27,cY 8 (.bool true),mi 9 0] [6,7,8,9]
 .ret)
 (ag [mv 29 10,bu 30 .eql 29 114,mv 28 30] [0,1,2,10,28]
 (.cond (.t 28) (ag [mv 31 1,bn 32 .add 31 1,cY 6 (.int .u8 13),mv 7 32,cY 8 (.bool true),mi 9 0] [6,7,8,9]
 .ret)
 (ag [mv 34 10,bu 35 .eql 34 116,mv 33 35] [0,1,2,10,33]
 (.cond (.t 33) (ag [mv 36 1,bn 37 .add 36 1,cY 6 (.int .u8 9),mv 7 37,cY 8 (.bool true),mi 9 0] [6,7,8,9]
 .ret)
 (ag [mv 39 10,bu 40 .eql 39 98,mv 38 40] [0,1,2,10,38]
 (.cond (.t 38) (ag [mv 41 1,bn 42 .add 41 1,cY 6 (.int .u8 8),mv 7 42,cY 8 (.bool true),mi 9 0] [6,7,8,9]
 .ret)
 (ag [mv 44 10,bu 45 .eql 44 102,mv 43 45] [0,1,2,10,43]
 (.cond (.t 43) (ag [mv 46 1,bn 47 .add 46 1,cY 6 (.int .u8 12),mv 7 47,cY 8 (.bool true),mi 9 0] [6,7,8,9]
 .ret)
 (ag [mv 49 10,bu 50 .eql 49 10,mv 48 50] [0,1,2,10,48]
 (.cond (.t 48) (ag [mv 51 1,bn 52 .add 51 1,cY 6 (.int .u8 0),mv 7 52,cY 8 (.bool false),mi 9 0] [6,7,8,9]
 .ret)
 (ag [mv 54 10,bu 55 .eql 54 13,mv 53 55] [0,1,2,10,53]
 (.cond (.t 53) (.seq (ag [mv 56 1,bn 57 .add 56 1,mv 58 0,le 59 0 58,bt 60 .geq 57 59,mv 61 60,bK 62 2 61 true,b6 63 61 true (.un .not (.t 62)),pf 64 61 63] [0,1,64]
 (.cond (.t 64) (ag [cY 6 (.int .u8 0),mi 7 0,cY 8 (.bool false),mi 9 6] [6,7,8,9]
 .ret)
 .skip))
 (.seq (ag [mv 65 1,bn 66 .add 65 1,mv 67 0,le 68 0 67,bt 69 .lss 66 68,mv 70 69,bK 71 0 70 true,bK 72 1 70 true,im 73 70 true .add 72 1,b6 74 70 true (.indexAddr [.int .u8 0] (.t 71) (.t 73)),lg 75 70 true 1 74,b6 76 70 true (.bin .eql (.t 75) (.c (.int .u8 10))),pf 77 70 76] [1,77]
 (.cond (.t 77) (ag [mv 78 1,bn 79 .add 78 2,cY 6 (.int .u8 0),mv 7 79,cY 8 (.bool false),mi 9 0] [6,7,8,9]
 .ret)
 .skip))
 (ag [mv 80 1,bn 81 .add 80 1,cY 6 (.int .u8 0),mv 7 81,cY 8 (.bool false),mi 9 0] [6,7,8,9]
 .ret)))
 (ag [mv 83 10,bu 84 .lss 83 48,mv 85 84,bK 86 10 85 false,b6 87 85 false (.bin .gtr (.t 86) (.c (.int .u8 55))),po 88 85 87,mv 82 88] [0,1,2,10,82]
 (.cond (.t 82) (ag [mv 89 10,mv 90 1,bn 91 .add 90 1,mv 6 89,mv 7 91,cY 8 (.bool true),mi 9 0] [6,7,8,9]
 .ret)
 .skip)))))))))))))))))
 (ag [mi 11 0] [0,1,2,11]
 (ag [mi 12 0] [0,1,2,11,12]
 (.join [(0,true),(1,false),(2,false),(11,false),(12,false)] (.block 1 (.loop [(0,true),(1,false),(2,false),(11,false),(12,false)] (.seq (ag [mv 92 12,bn 93 .lss 92 3,mv 94 93,bK 95 1 94 true,bK 96 12 94 true,sm 97 94 true .add 95 96,bK 98 0 94 true,b6 99 94 true (.len 0 (.t 98)),sm 100 94 true .lss 97 99,pf 101 94 100,mv 102 101,bK 103 0 102 true,bK 104 1 102 true,bK 105 12 102 true,sm 106 102 true .add 104 105,b6 107 102 true (.indexAddr [.int .u8 0] (.t 103) (.t 106)),lg 108 102 true 1 107,b6 109 102 true (.bin .geq (.t 108) (.c (.int .u8 48))),pf 110 102 109,mv 111 110,bK 112 0 111 true,bK 113 1 111 true,bK 114 12 111 true,sm 115 111 true .add 113 114,b6 116 111 true (.indexAddr [.int .u8 0] (.t 112) (.t 115)),lg 117 111 true 1 116,b6 118 111 true (.bin .leq (.t 117) (.c (.int .u8 55))),pf 119 111 118] [0,1,2,11,12,119]
 (.cond (.t 119) .skip
 (.exit 1)))
 (.block 2 (ag [mv 120 11,i1 121 (.bin .mul (.c (.int .i64 8)) (.t 120)),mv 122 0,mv 123 1,mv 124 12,bt 125 .add 123 124,ia 126 [.int .u8 0] 122 125,ld 127 1 126,i1 128 (.cC .i64 (.t 127)),bt 129 .add 121 128,bn 130 .sub 129 48,mv 11 130] [0,1,2,11,12]
 (.bP none [mv 131 12,bn 132 .add 131 1,mv 12 132] [0,1,2,11,12]))))))
 (.seq (ag [mv 133 12,bn 134 .lss 133 3,mv 135 134,bK 136 1 135 true,bK 137 12 135 true,sm 138 135 true .add 136 137,bK 139 0 135 true,b6 140 135 true (.len 0 (.t 139)),sm 141 135 true .geq 138 140,pf 142 135 141,mv 143 142,bK 144 2 143 true,b6 145 143 true (.un .not (.t 144)),pf 146 143 145] [1,11,12,146]
 (.cond (.t 146) (ag [cY 6 (.int .u8 0),mi 7 0,cY 8 (.bool false),mi 9 6] [6,7,8,9]
 .ret)
 .skip))
 (ag [mv 147 11,bn 148 .rem 147 256,i1 149 (.cC .u8 (.t 148)),mv 150 1,mv 151 12,bt 152 .add 150 151,mv 6 149,mv 7 152,cY 8 (.bool true),mi 9 0] [6,7,8,9]
 .ret)))))))))
theorem Ag:aY prog 187 153 [⟨6,true,none⟩,⟨7,true,none⟩,⟨8,true,none⟩,⟨9,true,none⟩] qu=true:=by kernel_rfl
theorem Av{b_0 ay aj}{s:ab}{Q:List AV->ab->Prop}:ok (gv b_0 ay aj) (fun r=>Q [.int .u8 r.1.toNat,.int .i64 r.2.1,.bool r.2.2.1,.int .i64 r.2.2.2] s)->FN prog 187 [sF 1 b_0,.int .i64 ay,.bool aj] s Q:=by
 intro h
 refine FO Ag rfl rfl ?_
 revert h
 rw[qu,gv]
 repeat'(first
  |(with_reducible first|exact dh|refine b9 ?_ ?_|refine dT ?_|refine ax (fun _(h:gG aj=some _)=>pZ h) (fun r1=>?_))
  |((with_reducible refine ch (fun((n7,k8):Int×Int)=>⟨[(0,sF 1 b_0),(1,.int .i64 ay),(2,.bool aj),(11,.int .i64 n7),(12,.int .i64 k8)],[],s⟩) ?_ ?_);(first|exact rfl|simp -implicitDefEqProofs only[go_sem,seval]);rintro J ⟨n7,k8⟩)
  |((with_reducible refine dI (fun((n5,k6):Int×Int)=>⟨[(0,sF 1 b_0),(1,.int .i64 ay),(2,.bool aj),(11,.int .i64 n5),(12,.int .i64 k6)],[],s⟩) (fun J=>?_) ?_);rotate_left;rintro⟨n5,k6⟩)
  |simp -implicitDefEqProofs only[go_sem,seval])
theorem Au{b_0 ay aj}{s:ab}{r:UInt8×Int×Bool×Int}(h:gv b_0 ay aj=some r):FE prog 187 [sF 1 b_0,.int .i64 ay,.bool aj] s [.int .u8 r.1.toNat,.int .i64 r.2.1,.bool r.2.2.1,.int .i64 r.2.2.2] s:=Av ⟨r,h,rfl,rfl⟩
def jq(b_0:(List UInt8))(ay:Int)(aj:Bool):Option ((List UInt8)×Int×Int):=
 oU (
  kU (
   iter (fun((at5,qR,tQ):Int×(List UInt8)×Int)=>
    if decide (at5<(b_0.length:Int))then
     aH (0<=at5/\at5<b_0.length)<|
     oU (
      if((ix b_0 at5).toNat:Int)==92 then
       ba (gv b_0 (ao (at5+1)) aj) fun r26=>
       if r26.2.2.2 !=0 then
        some (.inr (.inr (([]:List UInt8),(0:Int),r26.2.2.2)))
       else
        jn (
         if r26.2.2.1 then
          aH ((qR.length+[r26.1].length)*1<=room)<|
          some (qR++[r26.1])
         else
          some qR) fun(Mj:(List UInt8))=>
        some (.inr (.inl (r26.2.1,Mj)))
      else
       if((ix b_0 at5).toNat:Int)==13 then
        if(decide (ao (at5+1)>=(b_0.length:Int)))&&(!aj)then
         some (.inr (.inr (([]:List UInt8),(0:Int),(6:Int))))
        else
         jn (
          aH ((decide (ao (at5+1)<(b_0.length:Int)))=true->0<=ao (at5+1)/\ao (at5+1)<b_0.length)<|
          if(decide (ao (at5+1)<(b_0.length:Int)))&&(((ix b_0 (ao (at5+1))).toNat:Int)==10)then
           some (ao (at5+1))
          else
           some at5) fun(Rm:Int)=>
         some (.inl (Rm,tQ,10))
       else
        if((ix b_0 at5).toNat:Int)==40 then
         some (.inl (at5,ao (tQ+1),ix b_0 at5))
        else
         if((ix b_0 at5).toNat:Int)==41 then
          some (.inl (at5,ao (tQ -1),ix b_0 at5))
         else
          some (.inl (at5,tQ,ix b_0 at5))) (fun((Oi,BF,c17):Int×Int×UInt8)=>
      if BF==0 then
       some (.inr (.inr (qR,ao (Oi+1),(0:Int))))
      else
       aH ((qR.length+[c17].length)*1<=room)<|
       some (.inl (ao (Oi+1),qR++[c17],BF)))
     (jy (fun((adg,aaQ):Int×(List UInt8))=>some (.inl (adg,aaQ,tQ))) (fun((t23,t24,t25):(List UInt8)×Int×Int)=>some (.inr (.inr (t23,t24,t25)))))
    else
     some (.inr (.inl ()))) (ay,([]:List UInt8),1)) (fun(_:Unit)=>
   some (.inl ()))
  (fun((t9,t10,t11):(List UInt8)×Int×Int)=>some (.inr (t9,t10,t11)))) (fun(_:Unit)=>
  ba (gG aj) fun r37=>
  some (([]:List UInt8),0,r37))
 (fun((t2,t3,t4):(List UInt8)×Int×Int)=>some (t2,t3,t4))
def ui:IC:=
 (ag [i1 6 (.iJ true (.c (.sl true 1 0 []))),mi 7 0,mi 8 0] [0,1,2]
 (ag [i1 9 (.iJ true (.c (.sl true 1 0 [])))] [0,1,2,9]
 (ag [mi 10 1] [0,1,2,9,10]
 (.join [(2,false)] (.block 0 (.loop [(0,true),(1,false),(2,false),(9,false),(10,false)] (.seq (ag [mv 16 1,mv 17 0,le 18 0 17,bt 19 .lss 16 18] [0,1,2,9,10,19]
 (.cond (.t 19) .skip
 (.exit 0)))
 (.block 1 (ag [mv 20 0,mv 21 1,ia 22 [.int .u8 0] 20 21,ld 23 1 22,mv 11 23] [0,1,2,9,10,11]
 (.join [(0,true),(1,false),(2,false),(9,false),(10,false),(11,false)] (.block 2 (ag [mv 25 11,bu 26 .eql 25 92,mv 24 26] [0,1,2,9,10,11,24]
 (.cond (.t 24) (ag [mv 28 0,mv 29 1,bn 30 .add 29 1,mv 31 2,c3 32 187 28 30 31,jJ 27 32,ex 33 27 0,ex 34 27 1,ex 35 27 2,ex 36 27 3,mv 12 33,mv 13 34,mv 14 35,mv 15 36] [0,2,9,10,12,13,14,15]
 (.seq (ag [mv 37 15,bn 38 .neq 37 0] [0,2,9,10,12,13,14,15,38]
 (.cond (.t 38) (ag [mv 39 15,i1 6 (.iJ true (.c (.sl true 1 0 []))),mi 7 0,mv 8 39] [6,7,8]
 .ret)
 .skip))
 (.join [(0,true),(2,false),(9,false),(10,false),(13,false)] (ag [mv 40 14] [0,2,9,10,12,13,40]
 (.cond (.t 40) (.bP none [mt 41 9,mv 42 12,i1 43 (.bB 1 1 [.int .u8 0] [(0,1,(.t 42))]),JA 44 1 1 41 43,mt 9 44] [0,2,9,10,13])
 .skip))
 (ag [mv 45 13,mv 1 45] [0,1,2,9,10]
 (.exit 1)))))
 (ag [mv 47 11,bu 48 .eql 47 13,mv 46 48] [0,1,2,9,10,11,46]
 (.cond (.t 46) (.seq (ag [mv 49 1,bn 50 .add 49 1,mv 51 0,le 52 0 51,bt 53 .geq 50 52,mv 54 53,bK 55 2 54 true,b6 56 54 true (.un .not (.t 55)),pf 57 54 56] [0,1,2,9,10,57]
 (.cond (.t 57) (ag [i1 6 (.iJ true (.c (.sl true 1 0 []))),mi 7 0,mi 8 6] [6,7,8]
 .ret)
 .skip))
 (.join [(0,true),(1,false),(2,false),(9,false),(10,false)] (ag [mv 58 1,bn 59 .add 58 1,mv 60 0,le 61 0 60,bt 62 .lss 59 61,mv 63 62,bK 64 0 63 true,bK 65 1 63 true,im 66 63 true .add 65 1,b6 67 63 true (.indexAddr [.int .u8 0] (.t 64) (.t 66)),lg 68 63 true 1 67,b6 69 63 true (.bin .eql (.t 68) (.c (.int .u8 10))),pf 70 63 69] [0,1,2,9,10,70]
 (.cond (.t 70) (.bP none [mv 71 1,bn 72 .add 71 1,mv 1 72] [0,1,2,9,10])
 .skip))
 (.bP none [cY 11 (.int .u8 10)] [0,1,2,9,10,11])))
 (ag [mv 74 11,bu 75 .eql 74 40,mv 73 75] [0,1,2,9,10,11,73]
 (.cond (.t 73) (.bP none [mv 76 10,bn 77 .add 76 1,mv 10 77] [0,1,2,9,10,11])
 (ag [mv 79 11,bu 80 .eql 79 41,mv 78 80] [0,1,2,9,10,11,78]
 (.cond (.t 78) (.bP none [mv 81 10,bn 82 .sub 81 1,mv 10 82] [0,1,2,9,10,11])
 .skip)))))))))
 (ag [mv 83 1,bn 84 .add 83 1,mv 1 84] [0,1,2,9,10,11]
 (.seq (ag [mv 85 10,bn 86 .eql 85 0] [0,1,2,9,10,11,86]
 (.cond (.t 86) (ag [mt 87 9,mv 88 1,mt 6 87,mv 7 88,mi 8 0] [6,7,8]
 .ret)
 .skip))
 (.bP none [mt 89 9,mv 90 11,i1 91 (.bB 1 1 [.int .u8 0] [(0,1,(.t 90))]),JA 92 1 1 89 91,mt 9 92] [0,1,2,9,10])))))))))
 (ag [mv 93 2,c1 94 186 93,i1 6 (.iJ true (.c (.sl true 1 0 []))),mi 7 0,mv 8 94] [6,7,8]
 .ret)))))
theorem DX:aY prog 134 95 [⟨6,true,none⟩,⟨7,true,none⟩,⟨8,true,none⟩] ui=true:=by kernel_rfl
theorem El{b_0 ay aj}{s:ab}{Q:List AV->ab->Prop}:ok (jq b_0 ay aj) (fun r=>Q [sT 1 r.1,.int .i64 r.2.1,.int .i64 r.2.2] s)->FN prog 134 [sF 1 b_0,.int .i64 ay,.bool aj] s Q:=by
 intro h
 refine FO DX rfl rfl ?_
 revert h
 rw[ui,jq]
 repeat'(first
  |(with_reducible first|exact dh|refine b9 ?_ ?_|refine dT ?_|refine ax (fun _(h:gv b_0 (ao (at5+1)) aj=some _)=>Au h) (fun r26=>?_)|refine ax (fun _(h:gG aj=some _)=>pZ h) (fun r37=>?_))
  |((with_reducible refine dI (live:=[(0,true),(2,false),(9,false),(10,false),(13,false)]) (fun(Mj:(List UInt8))=>⟨[(0,sF 1 b_0),(2,.bool aj),(9,sT 1 Mj),(10,.int .i64 tQ),(13,.int .i64 r26.2.1)],[],s⟩) (fun J=>?_) ?_);rotate_left;rintro Mj)
  |((with_reducible refine dI (live:=[(0,true),(1,false),(2,false),(9,false),(10,false)]) (fun(Rm:Int)=>⟨[(0,sF 1 b_0),(1,.int .i64 Rm),(2,.bool aj),(9,sT 1 qR),(10,.int .i64 tQ)],[],s⟩) (fun J=>?_) ?_);rotate_left;rintro Rm)
  |((with_reducible refine bV (live:=[(0,true),(1,false),(2,false),(9,false),(10,false),(11,false)]) (fun((Oi,BF,c17):Int×Int×UInt8)=>⟨[(0,sF 1 b_0),(1,.int .i64 Oi),(2,.bool aj),(9,sT 1 qR),(10,.int .i64 BF),(11,.int .u8 c17.toNat)],[],s⟩) (fun J=>?_) ?_);rotate_left;rintro⟨Oi,BF,c17⟩)
  |((with_reducible refine ch (fun((at5,qR,tQ):Int×(List UInt8)×Int)=>⟨[(0,sF 1 b_0),(1,.int .i64 at5),(2,.bool aj),(9,sT 1 qR),(10,.int .i64 tQ)],[],s⟩) ?_ ?_);(first|exact rfl|simp -implicitDefEqProofs only[go_sem,seval]);rintro J ⟨at5,qR,tQ⟩)
  |((with_reducible refine bV (live:=[(2,false)]) (fun(_:Unit)=>⟨[(2,.bool aj)],[],s⟩) (fun J=>?_) ?_);rotate_left;rintro _)
  |simp -implicitDefEqProofs only[go_sem,seval])
theorem Ek{b_0 ay aj}{s:ab}{r:(List UInt8)×Int×Int}(h:jq b_0 ay aj=some r):FE prog 134 [sF 1 b_0,.int .i64 ay,.bool aj] s [sT 1 r.1,.int .i64 r.2.1,.int .i64 r.2.2] s:=El ⟨r,h,rfl,rfl⟩
def gV(w_0:(List UInt8)):Option (aa×Int):=
 oU (
  kU (
   iter (fun((tJ,k6):(List UInt8)×Int)=>
    if decide (k6<(w_0.length:Int))then
     oU (
      aH (0<=k6/\k6<w_0.length)<|
      if((ix w_0 k6).toNat:Int)!=35 then
       aH (0<=k6/\k6<w_0.length)<|
       aH ((tJ.length+[ix w_0 k6].length)*1<=room)<|
       some (.inl (tJ++[ix w_0 k6],k6))
      else
       aH ((!(decide (ao (k6+2)>=(w_0.length:Int))))=true->0<=ao (k6+1)/\ao (k6+1)<w_0.length)<|
       ba (dQ (!(decide (ao (k6+2)>=(w_0.length:Int)))) 0 (db (ix w_0 (ao (k6+1))))) fun r17=>
       aH ((!((decide (ao (k6+2)>=(w_0.length:Int)))||(decide (r17<0))))=true->0<=ao (k6+2)/\ao (k6+2)<w_0.length)<|
       ba (dQ (!((decide (ao (k6+2)>=(w_0.length:Int)))||(decide (r17<0)))) 0 (db (ix w_0 (ao (k6+2))))) fun r18=>
       if((decide (ao (k6+2)>=(w_0.length:Int)))||(decide (r17<0)))||(decide (r18<0))then
        some (.inr (17:Int))
       else
        aH (0<=ao (k6+1)/\ao (k6+1)<w_0.length)<|
        ba (db (ix w_0 (ao (k6+1)))) fun r19=>
        aH (0<=ao (k6+2)/\ao (k6+2)<w_0.length)<|
        ba (db (ix w_0 (ao (k6+2)))) fun r20=>
        aH ((tJ.length+[oq (ao ((ao (16*r19))+r20))].length)*1<=room)<|
        some (.inl (tJ++[oq (ao ((ao (16*r19))+r20))],ao (k6+2)))) (fun((Mh,k14):(List UInt8)×Int)=>
      some (.inl (Mh,ao (k14+1))))
     (fun(t16:Int)=>some (.inr (.inr t16)))
    else
     some (.inr (.inl tJ))) (([]:List UInt8),0)) (fun(Ww:(List UInt8))=>
   some (.inl Ww))
  (fun(t10:Int)=>some (.inr t10))) (fun(pW:(List UInt8))=>
  oU (
   kU (
    iter (fun(k25:Int)=>
     if decide (k25<(pW.length:Int))then
      aH (0<=k25/\k25<pW.length)<|
      if((ix pW k25).toNat:Int)==0 then
       some (.inr (.inr (17:Int)))
      else
       some (.inl (ao (k25+1)))
     else
      some (.inr (.inl ()))) 0) (fun(_:Unit)=>
    some (.inl ()))
   (fun(t29:Int)=>some (.inr t29))) (fun(_:Unit)=>
   if decide ((pW.length:Int)>127)then
    some ((aa.mk 0 0 (aC.mk []) ([]:List aa)),17)
   else
    some ((aa.mk 5 0 (aC.mk pW) ([]:List aa)),0))
  (fun(t24:Int)=>some ((aa.mk 0 0 (aC.mk []) ([]:List aa)),t24)))
 (fun(t4:Int)=>some ((aa.mk 0 0 (aC.mk []) ([]:List aa)),t4))
def uf:IC:=
 (ag [i1 2 (.aA dD),mi 3 0] [0,2]
 (ag [i1 4 (.iJ true (.c (.sl true 1 0 [])))] [0,2,4]
 (.join [(2,false),(4,false)] (ag [mi 5 0] [0,2,4,5]
 (.block 0 (.loop [(0,true),(2,false),(4,false),(5,false)] (.seq (ag [mv 7 5,mv 8 0,le 9 0 8,bt 10 .lss 7 9] [0,2,4,5,10]
 (.cond (.t 10) .skip
 (.exit 0)))
 (.join [(0,true),(2,false),(4,false),(5,false)] (.block 1 (.seq (ag [mv 13 0,mv 14 5,ia 15 [.int .u8 0] 13 14,ld 16 1 15,bu 17 .neq 16 35] [0,2,4,5,17]
 (.cond (.t 17) (ag [mt 18 4,mv 19 0,mv 20 5,ia 21 [.int .u8 0] 19 20,ld 22 1 21,i1 23 (.bB 1 1 [.int .u8 0] [(0,1,(.t 22))]),JA 24 1 1 18 23,mt 4 24] [0,2,4,5]
 (.exit 1))
 .skip))
 (.seq (.seq (.bP (some 21) [mv 25 5,bn 26 .add 25 2,mv 27 0,le 28 0 27,bt 29 .geq 26 28,mv 30 29,bK 31 0 30 false,bK 32 5 30 false,im 33 30 false .add 32 1,b6 34 30 false (.indexAddr [.int .u8 0] (.t 31) (.t 33)),lg 35 30 false 1 34,Fm 36 30 false 185 35,im 37 30 false .lss 36 0,po 38 30 37,mv 39 38,bK 40 0 39 false,bK 41 5 39 false,im 42 39 false .add 41 2,b6 43 39 false (.indexAddr [.int .u8 0] (.t 40) (.t 42)),lg 44 39 false 1 43,Fm 45 39 false 185 44,im 46 39 false .lss 45 0,po 47 39 46] [0,2,4,5,47])
 (.cond (.t 47) (ag [i1 48 (.build dD []),st 4 2 48,mi 3 17] [2,3]
 .ret)
 .skip))
 (.seq (.bP (some 17) [mt 49 4,mv 50 0,mv 51 5,bn 52 .add 51 1,ia 53 [.int .u8 0] 50 52,ld 54 1 53,c1 55 185 54,i1 56 (.bin .mul (.c (.int .i64 16)) (.t 55)),mv 57 0,mv 58 5,bn 59 .add 58 2,ia 60 [.int .u8 0] 57 59,ld 61 1 60,c1 62 185 61,bt 63 .add 56 62,i1 64 (.cC .u8 (.t 63)),i1 65 (.bB 1 1 [.int .u8 0] [(0,1,(.t 64))]),JA 66 1 1 49 65,mt 4 66] [0,2,4,5])
 (.bP none [mv 67 5,bn 68 .add 67 2,mv 5 68] [0,2,4,5])))))
 (.bP none [mv 11 5,bn 12 .add 11 1,mv 5 12] [0,2,4,5]))))))
 (.join [(2,false),(4,false)] (ag [mi 6 0] [2,4,6]
 (.block 2 (.loop [(2,false),(4,false),(6,false)] (.seq (ag [mv 69 6,mv 70 4,le 71 0 70,bt 72 .lss 69 71] [2,4,6,72]
 (.cond (.t 72) .skip
 (.exit 2)))
 (.seq (.block 3 (ag [mv 75 4,mv 76 6,ia 77 [.int .u8 0] 75 76,ld 78 1 77,bu 79 .eql 78 0] [2,4,6,79]
 (.cond (.t 79) (ag [i1 80 (.build dD []),st 4 2 80,mi 3 17] [2,3]
 .ret)
 .skip)))
 (.bP none [mv 73 6,bn 74 .add 73 1,mv 6 74] [2,4,6]))))))
 (.seq (ag [mv 81 4,le 82 0 81,bn 83 .gtr 82 127] [2,4,83]
 (.cond (.t 83) (ag [i1 84 (.build dD []),st 4 2 84,mi 3 17] [2,3]
 .ret)
 .skip))
 (ag [mt 85 4,i1 86 (.eP (.t 85)),i1 87 (.build dD [(0,1,(.c (.int .i64 5))),(2,1,(.t 86))]),st 4 2 87,mi 3 0] [2,3]
 .ret))))))
theorem DU:aY prog 135 88 [⟨2,false,some (4,true)⟩,⟨3,true,none⟩] uf=true:=by kernel_rfl
theorem Eg{w_0}{s:ab}{Q:List AV->ab->Prop}:ok (gV w_0) (fun r=>Q [.agg [.int .i64 r.1.Kind,.int .i64 r.1.N,.str r.1.S.b,sF 4 r.1.L],.int .i64 r.2] s)->FN prog 135 [sF 1 w_0] s Q:=by
 intro h
 refine FO DU rfl rfl ?_
 revert h
 rw[uf,gV]
 repeat'(first
  |(with_reducible first|exact dh|refine b9 ?_ ?_|refine dT ?_)
  |((fail_if_success (have _x:=r17));with_reducible refine c8 rfl (fun _(h:db (ix w_0 (ao (k6+1)))=some _)=>iq h) (fun _=>rfl) (fun r17=>?_))
  |((fail_if_success (have _x:=r18));with_reducible refine c8 rfl (fun _(h:db (ix w_0 (ao (k6+2)))=some _)=>iq h) (fun _=>rfl) (fun r18=>?_))
  |((fail_if_success (have _x:=r19));with_reducible refine dF (fun _(h:db (ix w_0 (ao (k6+1)))=some _)=>iq h) (fun _=>rfl) (fun r19=>?_))
  |((fail_if_success (have _x:=r20));with_reducible refine dF (fun _(h:db (ix w_0 (ao (k6+2)))=some _)=>iq h) (fun _=>rfl) (fun r20=>?_))
  |((with_reducible refine bV (live:=[(0,true),(2,false),(4,false),(5,false)]) (fun((Mh,k14):(List UInt8)×Int)=>⟨[(0,sF 1 w_0),(2,.loc [.int .i64 0,.int .i64 0,.str (aC.mk []).b,.sl true 4 0 []]),(4,sT 1 Mh),(5,.int .i64 k14)],[],s⟩) (fun J=>?_) ?_);rotate_left;rintro⟨Mh,k14⟩)
  |((with_reducible refine ch (fun((tJ,k6):(List UInt8)×Int)=>⟨[(0,sF 1 w_0),(2,.loc [.int .i64 0,.int .i64 0,.str (aC.mk []).b,.sl true 4 0 []]),(4,sT 1 tJ),(5,.int .i64 k6)],[],s⟩) ?_ ?_);(first|exact rfl|simp -implicitDefEqProofs only[go_sem,seval]);rintro J ⟨tJ,k6⟩)
  |((with_reducible refine bV (live:=[(2,false),(4,false)]) (fun(pW:(List UInt8))=>⟨[(2,.loc [.int .i64 0,.int .i64 0,.str (aC.mk []).b,.sl true 4 0 []]),(4,sT 1 pW)],[],s⟩) (fun J=>?_) ?_);rotate_left;rintro pW)
  |((with_reducible refine ch (fun(k25:Int)=>⟨[(2,.loc [.int .i64 0,.int .i64 0,.str (aC.mk []).b,.sl true 4 0 []]),(4,sT 1 pW),(6,.int .i64 k25)],[],s⟩) ?_ ?_);(first|exact rfl|simp -implicitDefEqProofs only[go_sem,seval]);rintro J k25)
  |((with_reducible refine bV (live:=[(2,false),(4,false)]) (fun(_:Unit)=>⟨[(2,.loc [.int .i64 0,.int .i64 0,.str (aC.mk []).b,.sl true 4 0 []]),(4,sT 1 pW)],[],s⟩) (fun J=>?_) ?_);rotate_left;rintro _)
  |simp -implicitDefEqProofs only[go_sem,seval])
theorem Ef{w_0}{s:ab}{r:aa×Int}(h:gV w_0=some r):FE prog 135 [sF 1 w_0] s [.agg [.int .i64 r.1.Kind,.int .i64 r.1.N,.str r.1.S.b,sF 4 r.1.L],.int .i64 r.2] s:=Eg ⟨r,h,rfl,rfl⟩
def fx(s_0:aC):Option (aa×Int):=
 jn (
  aH ((decide ((s_0.b.length:Int)>0))=true->0<=(0:Int)/\(0:Int)<s_0.b.length)<|
  aH ((!(((ix s_0.b 0).toNat:Int)==43))=true->0<=(0:Int)/\(0:Int)<s_0.b.length)<|
  if(decide ((s_0.b.length:Int)>0))&&((((ix s_0.b 0).toNat:Int)==43)||(((ix s_0.b 0).toNat:Int)==45))then
   some 1
  else
   some 0) fun(at3:Int)=>
 oU (
  kU (
   iter (fun((n14,kO,iQ,jc,mV,k19):Int×Int×Int×Int×Bool×Int)=>
    if decide (k19<(s_0.b.length:Int))then
     oU (
      aH (0<=k19/\k19<s_0.b.length)<|
      if(((ix s_0.b k19).toNat:Int)==46)&&(decide (jc<0))then
       some (.inl (n14,kO,iQ,k19,mV))
      else
       aH (0<=k19/\k19<s_0.b.length)<|
       aH ((decide (((ix s_0.b k19).toNat:Int)>=48))=true->0<=k19/\k19<s_0.b.length)<|
       if((decide (((ix s_0.b k19).toNat:Int)>=48))&&(decide (((ix s_0.b k19).toNat:Int)<=57)))&&(decide (jc<0))then
        jn (
         if !mV then
          aH (0<=k19/\k19<s_0.b.length)<|
          some (ao ((ao ((ao (10*n14))+(ao (((ix s_0.b k19).toNat:Int))))) -48))
         else
          some n14) fun(n44:Int)=>
        some (.inl (n44,kO,ao (iQ+1),jc,mV||(decide (n44>2147483647))))
       else
        aH (0<=k19/\k19<s_0.b.length)<|
        aH ((decide (((ix s_0.b k19).toNat:Int)>=48))=true->0<=k19/\k19<s_0.b.length)<|
        if(decide (((ix s_0.b k19).toNat:Int)>=48))&&(decide (((ix s_0.b k19).toNat:Int)<=57))then
         jn (
          iter (fun((Ib,j61):Int×Int)=>
           if(decide (j61<ao (k19 -jc)))&&(decide (j61<7))then
            some (.inl (ao (Int.tdiv Ib 10),ao (j61+1)))
           else
            some (.inr Ib)) (100000,1)) fun(Rq:Int)=>
         aH (0<=k19/\k19<s_0.b.length)<|
         some (.inl (n14,ao (kO+(ao (Rq*(ao ((ao (((ix s_0.b k19).toNat:Int))) -48))))),ao (iQ+1),jc,mV))
        else
         some (.inr (11:Int))) (fun((n33,A8,vS,A9,Ha):Int×Int×Int×Int×Bool)=>
      some (.inl (n33,A8,vS,A9,Ha,ao (k19+1))))
     (fun(t40:Int)=>some (.inr (.inr t40)))
    else
     some (.inr (.inl (n14,kO,iQ,jc,mV)))) (0,0,0,(-1),false,at3)) (fun((n23,SD,OL,SE,Wx):Int×Int×Int×Int×Bool)=>
   some (.inl (n23,SD,OL,SE,Wx)))
  (fun(t29:Int)=>some (.inr t29))) (fun((n7,CJ,A1,xf,G9):Int×Int×Int×Int×Bool)=>
  if A1==0 then
   some ((aa.mk 0 0 (aC.mk []) ([]:List aa)),11)
  else
   if G9||(((decide (xf>=0))&&(n7==2147483647))&&(decide (CJ>0)))then
    some ((aa.mk 0 0 (aC.mk []) ([]:List aa)),5)
   else
    jn (
     if decide (xf>=0)then
      some (aa.mk 3 (ao ((ao (1000000*n7))+CJ)) (aC.mk []) ([]:List aa))
     else
      some (aa.mk 2 n7 (aC.mk []) ([]:List aa))) fun(v75:aa)=>
    jn (
     aH ((at3==1)=true->0<=(0:Int)/\(0:Int)<s_0.b.length)<|
     if(at3==1)&&(((ix s_0.b 0).toNat:Int)==45)then
      some (aa.mk v75.Kind (ao (0 -v75.N)) v75.S v75.L)
     else
      some v75) fun(v77:aa)=>
    some (v77,0))
 (fun(t13:Int)=>some ((aa.mk 0 0 (aC.mk []) ([]:List aa)),t13))
def rF:IC:=
 (ag [i1 2 (.aA dD),mi 3 0] [0,2]
 (ag [mi 4 0] [0,2,4]
 (.join [(0,false),(2,false),(4,false)] (ag [mv 14 0,le 15 1 14,bn 16 .gtr 15 0,mv 17 16,bK 18 0 17 true,b6 19 17 true (.de (.t 18) (.c (.int .i64 0))),b6 20 17 true (.bin .eql (.t 19) (.c (.int .u8 43))),bK 21 20 17 true,bK 22 0 21 false,b6 23 21 false (.de (.t 22) (.c (.int .i64 0))),b6 24 21 false (.bin .eql (.t 23) (.c (.int .u8 45))),b6 25 17 true (.pick (.t 21) (.c (.bool true)) (.t 24)),pf 26 17 25] [0,2,4,26]
 (.cond (.t 26) (.bP none [mi 4 1] [0,2,4])
 .skip))
 (ag [mi 5 0] [0,2,4,5]
 (ag [mi 6 0] [0,2,4,5,6]
 (ag [mi 7 0] [0,2,4,5,6,7]
 (ag [mi 8 (-1)] [0,2,4,5,6,7,8]
 (ag [cY 9 (.bool false)] [0,2,4,5,6,7,8,9]
 (.join [(0,false),(2,false),(4,false),(5,false),(6,false),(7,false),(8,false),(9,false)] (ag [mv 27 4,mv 10 27] [0,2,4,5,6,7,8,9,10]
 (.block 0 (.loop [(0,false),(2,false),(4,false),(5,false),(6,false),(7,false),(8,false),(9,false),(10,false)] (.seq (ag [mv 28 10,mv 29 0,le 30 1 29,bt 31 .lss 28 30] [0,2,4,5,6,7,8,9,10,31]
 (.cond (.t 31) .skip
 (.exit 0)))
 (.join [(0,false),(2,false),(4,false),(5,false),(6,false),(7,false),(8,false),(9,false),(10,false)] (.block 1 (.block 2 (ag [mv 36 0,mv 37 10,i1 38 (.de (.t 36) (.t 37)),bu 39 .eql 38 46,mv 40 39,bK 41 8 40 true,im 42 40 true .lss 41 0,pf 43 40 42,mv 35 43] [0,2,4,5,6,7,8,9,10,35]
 (.cond (.t 35) (.bP none [mv 44 10,mv 8 44] [0,2,4,5,6,7,8,9,10])
 (ag [mv 46 0,mv 47 10,i1 48 (.de (.t 46) (.t 47)),bu 49 .geq 48 48,mv 50 49,bK 51 0 50 true,bK 52 10 50 true,b6 53 50 true (.de (.t 51) (.t 52)),b6 54 50 true (.bin .leq (.t 53) (.c (.int .u8 57))),pf 55 50 54,mv 56 55,bK 57 8 56 true,im 58 56 true .lss 57 0,pf 59 56 58,mv 45 59] [0,2,4,5,6,7,8,9,10,45]
 (.cond (.t 45) (ag [mv 60 7,bn 61 .add 60 1,mv 7 61] [0,2,4,5,6,7,8,9,10]
 (.join [(0,false),(2,false),(4,false),(5,false),(6,false),(7,false),(8,false),(9,false),(10,false)] (ag [mv 62 9,no 63 62] [0,2,4,5,6,7,8,9,10,63]
 (.cond (.t 63) (.bP none [mv 64 5,i1 65 (.bin .mul (.c (.int .i64 10)) (.t 64)),mv 66 0,mv 67 10,i1 68 (.de (.t 66) (.t 67)),i1 69 (.cC .i64 (.t 68)),bt 70 .add 65 69,bn 71 .sub 70 48,mv 5 71] [0,2,4,5,6,7,8,9,10])
 .skip))
 (.bP none [mv 72 9,mv 73 72,bK 74 5 73 false,im 75 73 false .gtr 74 2147483647,po 76 73 75,mv 9 76] [0,2,4,5,6,7,8,9,10])))
 (ag [mv 78 0,mv 79 10,i1 80 (.de (.t 78) (.t 79)),bu 81 .geq 80 48,mv 82 81,bK 83 0 82 true,bK 84 10 82 true,b6 85 82 true (.de (.t 83) (.t 84)),b6 86 82 true (.bin .leq (.t 85) (.c (.int .u8 57))),pf 87 82 86,mv 77 87] [0,2,4,5,6,7,8,9,10,77]
 (.cond (.t 77) (ag [mv 88 7,bn 89 .add 88 1,mv 7 89] [0,2,4,5,6,7,8,9,10]
 (ag [mi 11 100000] [0,2,4,5,6,7,8,9,10,11]
 (.join [(0,false),(2,false),(4,false),(5,false),(6,false),(7,false),(8,false),(9,false),(10,false),(11,false)] (ag [mi 12 1] [0,2,4,5,6,7,8,9,10,11,12]
 (.block 3 (.loop [(0,false),(2,false),(4,false),(5,false),(6,false),(7,false),(8,false),(9,false),(10,false),(11,false),(12,false)] (.seq (ag [mv 90 12,mv 91 10,mv 92 8,bt 93 .sub 91 92,bt 94 .lss 90 93,mv 95 94,bK 96 12 95 true,im 97 95 true .lss 96 7,pf 98 95 97] [0,2,4,5,6,7,8,9,10,11,12,98]
 (.cond (.t 98) .skip
 (.exit 3)))
 (.seq (.block 4 (.bP none [mv 101 11,bn 102 .quo 101 10,mv 11 102] [0,2,4,5,6,7,8,9,10,11,12]))
 (.bP none [mv 99 12,bn 100 .add 99 1,mv 12 100] [0,2,4,5,6,7,8,9,10,11,12]))))))
 (.bP none [mv 103 6,mv 104 11,mv 105 0,mv 106 10,i1 107 (.de (.t 105) (.t 106)),i1 108 (.cC .i64 (.t 107)),bn 109 .sub 108 48,bt 110 .mul 104 109,bt 111 .add 103 110,mv 6 111] [0,2,4,5,6,7,8,9,10]))))
 (ag [i1 34 (.build dD []),st 4 2 34,mi 3 11] [2,3]
 .ret)))))))))
 (.bP none [mv 32 10,bn 33 .add 32 1,mv 10 33] [0,2,4,5,6,7,8,9,10]))))))
 (.seq (ag [mv 112 7,bn 113 .eql 112 0] [0,2,4,5,6,8,9,113]
 (.cond (.t 113) (ag [i1 114 (.build dD []),st 4 2 114,mi 3 11] [2,3]
 .ret)
 .skip))
 (.seq (ag [mv 115 9,mv 116 115,bK 117 8 116 false,im 118 116 false .geq 117 0,bK 119 118 116 false,bK 120 5 119 true,im 121 119 true .eql 120 2147483647,b6 122 116 false (.pick (.t 119) (.t 121) (.c (.bool false))),bK 123 122 116 false,bK 124 6 123 true,im 125 123 true .gtr 124 0,b6 126 116 false (.pick (.t 123) (.t 125) (.c (.bool false))),po 127 116 126] [0,2,4,5,6,8,127]
 (.cond (.t 127) (ag [i1 128 (.build dD []),st 4 2 128,mi 3 5] [2,3]
 .ret)
 .skip))
 (ag [mv 129 5,i1 130 (.build dD [(0,1,(.c (.int .i64 2))),(1,1,(.t 129))]),i1 13 (.aA dD),st 4 13 130] [0,2,4,5,6,8,13]
 (.join [(0,false),(2,false),(4,false),(13,false)] (ag [mv 131 8,bn 132 .geq 131 0] [0,2,4,5,6,13,132]
 (.cond (.t 132) (.bP none [mv 133 5,i1 134 (.bin .mul (.c (.int .i64 1000000)) (.t 133)),mv 135 6,bt 136 .add 134 135,i1 137 (.build dD [(0,1,(.c (.int .i64 3))),(1,1,(.t 136))]),st 4 13 137] [0,2,4,13])
 .skip))
 (.join [(2,false),(13,false)] (ag [mv 138 4,bn 139 .eql 138 1,mv 140 139,bK 141 0 140 true,b6 142 140 true (.de (.t 141) (.c (.int .i64 0))),b6 143 140 true (.bin .eql (.t 142) (.c (.int .u8 45))),pf 144 140 143] [2,13,144]
 (.cond (.t 144) (.bP none [fa 145 1 13,ld 146 1 145,i1 147 (.bin .sub (.c (.int .i64 0)) (.t 146)),fa 148 1 13,st 1 148 147] [2,13])
 .skip))
 (ag [lm 149 4 13,st 4 2 149,mi 3 0] [2,3]
 .ret)))))))))))))))
theorem Cb:aY prog 136 150 [⟨2,false,some (4,true)⟩,⟨3,true,none⟩] rF=true:=by kernel_rfl
theorem CW{s_0}{s:ab}{Q:List AV->ab->Prop}:ok (fx s_0) (fun r=>Q [.agg [.int .i64 r.1.Kind,.int .i64 r.1.N,.str r.1.S.b,sF 4 r.1.L],.int .i64 r.2] s)->FN prog 136 [.str s_0.b] s Q:=by
 intro h
 refine FO Cb rfl rfl ?_
 revert h
 rw[rF,fx]
 repeat'(first
  |(with_reducible first|exact dh|refine b9 ?_ ?_|exact Pw|refine dT ?_)
  |((with_reducible refine dI (live:=[(0,false),(2,false),(4,false)]) (fun(at3:Int)=>⟨[(0,.str s_0.b),(2,.loc [.int .i64 0,.int .i64 0,.str (aC.mk []).b,.sl true 4 0 []]),(4,.int .i64 at3)],[],s⟩) (fun J=>?_) ?_);rotate_left;rintro at3)
  |((with_reducible refine dI (live:=[(0,false),(2,false),(4,false),(5,false),(6,false),(7,false),(8,false),(9,false),(10,false)]) (fun(n44:Int)=>⟨[(0,.str s_0.b),(2,.loc [.int .i64 0,.int .i64 0,.str (aC.mk []).b,.sl true 4 0 []]),(4,.int .i64 at3),(5,.int .i64 n44),(6,.int .i64 kO),(7,.int .i64 (ao (iQ+1))),(8,.int .i64 jc),(9,.bool mV),(10,.int .i64 k19)],[],s⟩) (fun J=>?_) ?_);rotate_left;rintro n44)
  |((with_reducible refine ch (fun((Ib,j61):Int×Int)=>⟨[(0,.str s_0.b),(2,.loc [.int .i64 0,.int .i64 0,.str (aC.mk []).b,.sl true 4 0 []]),(4,.int .i64 at3),(5,.int .i64 n14),(6,.int .i64 kO),(7,.int .i64 (ao (iQ+1))),(8,.int .i64 jc),(9,.bool mV),(10,.int .i64 k19),(11,.int .i64 Ib),(12,.int .i64 j61)],[],s⟩) ?_ ?_);(first|exact rfl|simp -implicitDefEqProofs only[go_sem,seval]);rintro J ⟨Ib,j61⟩)
  |((with_reducible refine dI (live:=[(0,false),(2,false),(4,false),(5,false),(6,false),(7,false),(8,false),(9,false),(10,false),(11,false)]) (fun(Rq:Int)=>⟨[(0,.str s_0.b),(2,.loc [.int .i64 0,.int .i64 0,.str (aC.mk []).b,.sl true 4 0 []]),(4,.int .i64 at3),(5,.int .i64 n14),(6,.int .i64 kO),(7,.int .i64 (ao (iQ+1))),(8,.int .i64 jc),(9,.bool mV),(10,.int .i64 k19),(11,.int .i64 Rq)],[],s⟩) (fun J=>?_) ?_);rotate_left;rintro Rq)
  |((with_reducible refine bV (live:=[(0,false),(2,false),(4,false),(5,false),(6,false),(7,false),(8,false),(9,false),(10,false)]) (fun((n33,A8,vS,A9,Ha):Int×Int×Int×Int×Bool)=>⟨[(0,.str s_0.b),(2,.loc [.int .i64 0,.int .i64 0,.str (aC.mk []).b,.sl true 4 0 []]),(4,.int .i64 at3),(5,.int .i64 n33),(6,.int .i64 A8),(7,.int .i64 vS),(8,.int .i64 A9),(9,.bool Ha),(10,.int .i64 k19)],[],s⟩) (fun J=>?_) ?_);rotate_left;rintro⟨n33,A8,vS,A9,Ha⟩)
  |((with_reducible refine ch (fun((n14,kO,iQ,jc,mV,k19):Int×Int×Int×Int×Bool×Int)=>⟨[(0,.str s_0.b),(2,.loc [.int .i64 0,.int .i64 0,.str (aC.mk []).b,.sl true 4 0 []]),(4,.int .i64 at3),(5,.int .i64 n14),(6,.int .i64 kO),(7,.int .i64 iQ),(8,.int .i64 jc),(9,.bool mV),(10,.int .i64 k19)],[],s⟩) ?_ ?_);(first|exact rfl|simp -implicitDefEqProofs only[go_sem,seval]);rintro J ⟨n14,kO,iQ,jc,mV,k19⟩)
  |((with_reducible refine bV (live:=[(0,false),(2,false),(4,false),(5,false),(6,false),(7,false),(8,false),(9,false)]) (fun((n7,CJ,A1,xf,G9):Int×Int×Int×Int×Bool)=>⟨[(0,.str s_0.b),(2,.loc [.int .i64 0,.int .i64 0,.str (aC.mk []).b,.sl true 4 0 []]),(4,.int .i64 at3),(5,.int .i64 n7),(6,.int .i64 CJ),(7,.int .i64 A1),(8,.int .i64 xf),(9,.bool G9)],[],s⟩) (fun J=>?_) ?_);rotate_left;rintro⟨n7,CJ,A1,xf,G9⟩)
  |((with_reducible refine dI (live:=[(0,false),(2,false),(4,false),(13,false)]) (fun(v75:aa)=>⟨[(0,.str s_0.b),(2,.loc [.int .i64 0,.int .i64 0,.str (aC.mk []).b,.sl true 4 0 []]),(4,.int .i64 at3),(13,.loc [.int .i64 v75.Kind,.int .i64 v75.N,.str v75.S.b,sF 4 v75.L])],[],s⟩) (fun J=>?_) ?_);rotate_left;rintro v75)
  |((with_reducible refine dI (live:=[(2,false),(13,false)]) (fun(v77:aa)=>⟨[(2,.loc [.int .i64 0,.int .i64 0,.str (aC.mk []).b,.sl true 4 0 []]),(13,.loc [.int .i64 v77.Kind,.int .i64 v77.N,.str v77.S.b,sF 4 v77.L])],[],s⟩) (fun J=>?_) ?_);rotate_left;rintro v77)
  |simp -implicitDefEqProofs only[go_sem,seval])
theorem CV{s_0}{s:ab}{r:aa×Int}(h:fx s_0=some r):FE prog 136 [.str s_0.b] s [.agg [.int .i64 r.1.Kind,.int .i64 r.1.N,.str r.1.S.b,sF 4 r.1.L],.int .i64 r.2] s:=CW ⟨r,h,rfl,rfl⟩
def bD(b_0:(List UInt8))(ay:Int)(aj:Bool):Option (aK×Int):=
 if(decide (ay<0))||(decide (ay>(b_0.length:Int)))then
  some ((aK.mk 0 0 0 (aa.mk 0 0 (aC.mk []) ([]:List aa)) (aC.mk [])),2)
 else
  ba (jo b_0 ay) fun r1=>
  if r1==(b_0.length:Int)then
   if aj then
    some ((aK.mk 0 r1 r1 (aa.mk 0 0 (aC.mk []) ([]:List aa)) (aC.mk [])),0)
   else
    some ((aK.mk 0 r1 r1 (aa.mk 0 0 (aC.mk []) ([]:List aa)) (aC.mk [])),6)
  else
   aH (0<=r1/\r1<b_0.length)<|
   ba (ir b_0 r1) fun r2=>
   if((ix b_0 r1).toNat:Int)==91 then
    some ((aK.mk 2 r1 (ao (r1+1)) (aa.mk 0 0 (aC.mk []) ([]:List aa)) (aC.mk [])),0)
   else
    if((ix b_0 r1).toNat:Int)==93 then
     some ((aK.mk 3 r1 (ao (r1+1)) (aa.mk 0 0 (aC.mk []) ([]:List aa)) (aC.mk [])),0)
    else
     aH (((((ix b_0 r1).toNat:Int)==60)&&(decide (ao (r1+1)<(b_0.length:Int))))=true->0<=ao (r1+1)/\ao (r1+1)<b_0.length)<|
     if((((ix b_0 r1).toNat:Int)==60)&&(decide (ao (r1+1)<(b_0.length:Int))))&&(((ix b_0 (ao (r1+1))).toNat:Int)==60)then
      some ((aK.mk 4 r1 (ao (r1+2)) (aa.mk 0 0 (aC.mk []) ([]:List aa)) (aC.mk [])),0)
     else
      aH (((((ix b_0 r1).toNat:Int)==62)&&(decide (ao (r1+1)<(b_0.length:Int))))=true->0<=ao (r1+1)/\ao (r1+1)<b_0.length)<|
      if((((ix b_0 r1).toNat:Int)==62)&&(decide (ao (r1+1)<(b_0.length:Int))))&&(((ix b_0 (ao (r1+1))).toNat:Int)==62)then
       some ((aK.mk 5 r1 (ao (r1+2)) (aa.mk 0 0 (aC.mk []) ([]:List aa)) (aC.mk [])),0)
      else
       if((((ix b_0 r1).toNat:Int)==62)&&((ao (r1+1))==(b_0.length:Int)))&&(!aj)then
        some ((aK.mk 0 r1 r1 (aa.mk 0 0 (aC.mk []) ([]:List aa)) (aC.mk [])),6)
       else
        if(((ix b_0 r1).toNat:Int)==60)||(((ix b_0 r1).toNat:Int)==40)then
         ba (gW b_0 (ao (r1+1)) aj) fun r3=>
         jn (
          if((ix b_0 r1).toNat:Int)==40 then
           ba (jq b_0 (ao (r1+1)) aj) fun r10=>
           some ((aK.mk 0 r1 r1 (aa.mk 0 0 (aC.mk []) ([]:List aa)) (aC.mk [])),r10.1,r10.2.1,r10.2.2)
          else
           some ((aK.mk 0 r1 r1 (aa.mk 0 0 (aC.mk []) ([]:List aa)) (aC.mk [])),r3.1,r3.2.1,r3.2.2)) fun((no6,s7,to8,e9):aK×(List UInt8)×Int×Int)=>
         if e9 !=0 then
          some (no6,e9)
         else
          some ((aK.mk 1 r1 to8 (aa.mk 4 0 (aC.mk s7) ([]:List aa)) (aC.mk [])),0)
        else
         if((ix b_0 r1).toNat:Int)==47 then
          ba (ir b_0 (ao (r1+1))) fun r11=>
          if(r11==(b_0.length:Int))&&(!aj)then
           some ((aK.mk 0 r1 r1 (aa.mk 0 0 (aC.mk []) ([]:List aa)) (aC.mk [])),6)
          else
           aH (0<=ao (r1+1)/\ao (r1+1)<=r11/\r11<=b_0.length)<|
           ba (gV (part b_0 (ao (r1+1)) r11)) fun r12=>
           if r12.2 !=0 then
            some ((aK.mk 0 r1 r1 (aa.mk 0 0 (aC.mk []) ([]:List aa)) (aC.mk [])),r12.2)
           else
            some ((aK.mk 1 r1 r11 r12.1 (aC.mk [])),0)
         else
          ba (da (ix b_0 r1)) fun r13=>
          if r13 then
           some ((aK.mk 0 r1 r1 (aa.mk 0 0 (aC.mk []) ([]:List aa)) (aC.mk [])),11)
          else
           if(r2==(b_0.length:Int))&&(!aj)then
            some ((aK.mk 0 r1 r1 (aa.mk 0 0 (aC.mk []) ([]:List aa)) (aC.mk [])),6)
           else
            if((((decide (((ix b_0 r1).toNat:Int)>=48))&&(decide (((ix b_0 r1).toNat:Int)<=57)))||(((ix b_0 r1).toNat:Int)==43))||(((ix b_0 r1).toNat:Int)==45))||(((ix b_0 r1).toNat:Int)==46)then
             aH (0<=r1/\r1<=r2/\r2<=b_0.length)<|
             ba (fx (aC.mk (part b_0 r1 r2))) fun r14=>
             if r14.2 !=0 then
              some ((aK.mk 0 r1 r1 (aa.mk 0 0 (aC.mk []) ([]:List aa)) (aC.mk [])),r14.2)
             else
              some ((aK.mk 1 r1 r2 r14.1 (aC.mk [])),0)
            else
             aH (0<=r1/\r1<=r2/\r2<=b_0.length)<|
             some ((aK.mk 6 r1 r2 (aa.mk 0 0 (aC.mk []) ([]:List aa)) (aC.mk (part b_0 r1 r2))),0)
def ug:IC:=
 (ag [i1 6 (.aA jK),mi 7 0] [0,1,2,6]
 (.seq (ag [mv 20 1,bn 21 .lss 20 0,mv 22 21,bK 23 1 22 false,bK 24 0 22 false,b6 25 22 false (.len 0 (.t 24)),sm 26 22 false .gtr 23 25,po 27 22 26] [0,1,2,6,27]
 (.cond (.t 27) (ag [i1 28 (.build jK []),st 8 6 28,mi 7 2] [6,7]
 .ret)
 .skip))
 (ag [mv 29 0,mv 30 1,c2 31 131 29 30,mv 8 31] [0,2,6,8]
 (ag [mv 32 8,mv 33 8,i1 34 (.build jK [(1,1,(.t 32)),(2,1,(.t 33))]),i1 9 (.aA jK),st 8 9 34] [0,2,6,8,9]
 (.seq (ag [mv 35 8,mv 36 0,le 37 0 36,bt 38 .eql 35 37] [0,2,6,8,9,38]
 (.cond (.t 38) (.seq (ag [mv 39 2] [6,9,39]
 (.cond (.t 39) (ag [lm 40 8 9,st 8 6 40,mi 7 0] [6,7]
 .ret)
 .skip))
 (ag [lm 41 8 9,st 8 6 41,mi 7 6] [6,7]
 .ret))
 .skip))
 (ag [mv 42 0,mv 43 8,ia 44 [.int .u8 0] 42 43,ld 45 1 44,mv 10 45] [0,2,6,8,9,10]
 (ag [mv 46 8,bn 47 .add 46 1,mv 11 47] [0,2,6,8,9,10,11]
 (ag [mv 48 0,mv 49 8,c2 50 132 48 49,mv 12 50] [0,2,6,8,9,10,11,12]
 (.seq (.block 0 (ag [mv 52 10,bu 53 .eql 52 91,mv 51 53] [0,2,6,8,9,10,11,12,51]
 (.cond (.t 51) (ag [mv 54 8,mv 55 11,i1 56 (.build jK [(0,1,(.c (.int .i64 2))),(1,1,(.t 54)),(2,1,(.t 55))]),st 8 6 56,mi 7 0] [6,7]
 .ret)
 (ag [mv 58 10,bu 59 .eql 58 93,mv 57 59] [0,2,6,8,9,10,11,12,57]
 (.cond (.t 57) (ag [mv 60 8,mv 61 11,i1 62 (.build jK [(0,1,(.c (.int .i64 3))),(1,1,(.t 60)),(2,1,(.t 61))]),st 8 6 62,mi 7 0] [6,7]
 .ret)
 (ag [mv 64 10,bu 65 .eql 64 60,mv 66 65,bK 67 11 66 true,bK 68 0 66 true,b6 69 66 true (.len 0 (.t 68)),sm 70 66 true .lss 67 69,pf 71 66 70,mv 72 71,bK 73 0 72 true,bK 74 11 72 true,b6 75 72 true (.indexAddr [.int .u8 0] (.t 73) (.t 74)),lg 76 72 true 1 75,b6 77 72 true (.bin .eql (.t 76) (.c (.int .u8 60))),pf 78 72 77,mv 63 78] [0,2,6,8,9,10,11,12,63]
 (.cond (.t 63) (ag [mv 79 8,mv 80 8,bn 81 .add 80 2,i1 82 (.build jK [(0,1,(.c (.int .i64 4))),(1,1,(.t 79)),(2,1,(.t 81))]),st 8 6 82,mi 7 0] [6,7]
 .ret)
 (ag [mv 84 10,bu 85 .eql 84 62,mv 86 85,bK 87 11 86 true,bK 88 0 86 true,b6 89 86 true (.len 0 (.t 88)),sm 90 86 true .lss 87 89,pf 91 86 90,mv 92 91,bK 93 0 92 true,bK 94 11 92 true,b6 95 92 true (.indexAddr [.int .u8 0] (.t 93) (.t 94)),lg 96 92 true 1 95,b6 97 92 true (.bin .eql (.t 96) (.c (.int .u8 62))),pf 98 92 97,mv 83 98] [0,2,6,8,9,10,11,12,83]
 (.cond (.t 83) (ag [mv 99 8,mv 100 8,bn 101 .add 100 2,i1 102 (.build jK [(0,1,(.c (.int .i64 5))),(1,1,(.t 99)),(2,1,(.t 101))]),st 8 6 102,mi 7 0] [6,7]
 .ret)
 (ag [mv 104 10,bu 105 .eql 104 62,mv 106 105,bK 107 11 106 true,bK 108 0 106 true,b6 109 106 true (.len 0 (.t 108)),sm 110 106 true .eql 107 109,pf 111 106 110,mv 112 111,bK 113 2 112 true,b6 114 112 true (.un .not (.t 113)),pf 115 112 114,mv 103 115] [0,2,6,8,9,10,11,12,103]
 (.cond (.t 103) (ag [lm 116 8 9,st 8 6 116,mi 7 6] [6,7]
 .ret)
 (ag [mv 118 10,bu 119 .eql 118 60,mv 120 119,bK 121 10 120 false,b6 122 120 false (.bin .eql (.t 121) (.c (.int .u8 40))),po 123 120 122,mv 117 123] [0,2,6,8,9,10,11,12,117]
 (.cond (.t 117) (ag [mv 125 0,mv 126 11,mv 127 2,c3 128 133 125 126 127,jJ 124 128,ex 129 124 0,ex 130 124 1,ex 131 124 2,mt 13 129,mv 14 130,mv 15 131] [0,2,6,8,9,10,11,13,14,15]
 (.join [(6,false),(8,false),(9,false),(13,true),(14,false),(15,false)] (ag [mv 132 10,bu 133 .eql 132 40] [0,2,6,8,9,11,13,14,15,133]
 (.cond (.t 133) (.bP none [mt 135 0,mv 136 11,mv 137 2,c3 138 134 135 136 137,jJ 134 138,ex 139 134 0,ex 140 134 1,ex 141 134 2,mt 13 139,mv 14 140,mv 15 141] [6,8,9,13,14,15])
 .skip))
 (.seq (ag [mv 142 15,bn 143 .neq 142 0] [6,8,9,13,14,15,143]
 (.cond (.t 143) (ag [lm 144 8 9,mv 145 15,st 8 6 144,mv 7 145] [6,7]
 .ret)
 .skip))
 (ag [mv 146 8,mv 147 14,mt 148 13,i1 149 (.eP (.t 148)),i1 150 (.build dD [(0,1,(.c (.int .i64 4))),(2,1,(.t 149))]),i1 151 (.build jK [(0,1,(.c (.int .i64 1))),(1,1,(.t 146)),(2,1,(.t 147)),(3,4,(.t 150))]),st 8 6 151,mi 7 0] [6,7]
 .ret))))
 (ag [mv 153 10,bu 154 .eql 153 47,mv 152 154] [0,2,6,8,9,10,11,12,152]
 (.cond (.t 152) (ag [mv 155 0,mv 156 11,c2 157 132 155 156,mv 12 157] [0,2,6,8,9,11,12]
 (.seq (ag [mv 158 12,mv 159 0,le 160 0 159,bt 161 .eql 158 160,mv 162 161,bK 163 2 162 true,b6 164 162 true (.un .not (.t 163)),pf 165 162 164] [0,6,8,9,11,12,165]
 (.cond (.t 165) (ag [lm 166 8 9,st 8 6 166,mi 7 6] [6,7]
 .ret)
 .skip))
 (ag [mt 168 0,mv 169 11,mv 170 12,i1 171 (.slice 1 (.t 168) (some (.t 169)) (some (.t 170)) none),c1 172 135 171,jJ 167 172,ex 173 167 0,ex 174 167 1,i1 16 (.aA dD),st 4 16 173,mv 17 174] [6,8,9,12,16,17]
 (.seq (ag [mv 175 17,bn 176 .neq 175 0] [6,8,9,12,16,17,176]
 (.cond (.t 176) (ag [lm 177 8 9,mv 178 17,st 8 6 177,mv 7 178] [6,7]
 .ret)
 .skip))
 (ag [mv 179 8,mv 180 12,lm 181 4 16,i1 182 (.build jK [(0,1,(.c (.int .i64 1))),(1,1,(.t 179)),(2,1,(.t 180)),(3,4,(.t 181))]),st 8 6 182,mi 7 0] [6,7]
 .ret)))))
 (ag [mv 184 10,c1 185 79 184,mv 183 185] [0,2,6,8,9,10,12,183]
 (.cond (.t 183) (ag [lm 186 8 9,st 8 6 186,mi 7 11] [6,7]
 .ret)
 .skip)))))))))))))))))
 (.seq (ag [mv 187 12,mv 188 0,le 189 0 188,bt 190 .eql 187 189,mv 191 190,bK 192 2 191 true,b6 193 191 true (.un .not (.t 192)),pf 194 191 193] [0,6,8,9,10,12,194]
 (.cond (.t 194) (ag [lm 195 8 9,st 8 6 195,mi 7 6] [6,7]
 .ret)
 .skip))
 (.seq (ag [mv 196 10,bu 197 .geq 196 48,mv 198 197,bK 199 10 198 true,b6 200 198 true (.bin .leq (.t 199) (.c (.int .u8 57))),pf 201 198 200,mv 202 201,bK 203 10 202 false,b6 204 202 false (.bin .eql (.t 203) (.c (.int .u8 43))),po 205 202 204,mv 206 205,bK 207 10 206 false,b6 208 206 false (.bin .eql (.t 207) (.c (.int .u8 45))),po 209 206 208,mv 210 209,bK 211 10 210 false,b6 212 210 false (.bin .eql (.t 211) (.c (.int .u8 46))),po 213 210 212] [0,6,8,9,12,213]
 (.cond (.t 213) (ag [mt 215 0,mv 216 8,mv 217 12,i1 218 (.slice 1 (.t 215) (some (.t 216)) (some (.t 217)) none),i1 219 (.eP (.t 218)),c1 220 136 219,jJ 214 220,ex 221 214 0,ex 222 214 1,i1 18 (.aA dD),st 4 18 221,mv 19 222] [6,8,9,12,18,19]
 (.seq (ag [mv 223 19,bn 224 .neq 223 0] [6,8,9,12,18,19,224]
 (.cond (.t 224) (ag [lm 225 8 9,mv 226 19,st 8 6 225,mv 7 226] [6,7]
 .ret)
 .skip))
 (ag [mv 227 8,mv 228 12,lm 229 4 18,i1 230 (.build jK [(0,1,(.c (.int .i64 1))),(1,1,(.t 227)),(2,1,(.t 228)),(3,4,(.t 229))]),st 8 6 230,mi 7 0] [6,7]
 .ret)))
 .skip))
 (ag [mv 231 8,mv 232 12,mt 233 0,mv 234 8,mv 235 12,i1 236 (.slice 1 (.t 233) (some (.t 234)) (some (.t 235)) none),i1 237 (.eP (.t 236)),i1 238 (.build jK [(0,1,(.c (.int .i64 6))),(1,1,(.t 231)),(2,1,(.t 232)),(7,1,(.t 237))]),st 8 6 238,mi 7 0] [6,7]
 .ret))))))))))))
theorem DV:aY prog 80 239 [⟨6,false,some (8,true)⟩,⟨7,true,none⟩] ug=true:=by kernel_rfl
theorem Eh{b_0 ay aj}{s:ab}{Q:List AV->ab->Prop}:ok (bD b_0 ay aj) (fun r=>Q [.agg [.int .i64 r.1.Kind,.int .i64 r.1.bA,.int .i64 r.1.To,.int .i64 r.1.V.Kind,.int .i64 r.1.V.N,.str r.1.V.S.b,sF 4 r.1.V.L,.str r.1.S.b],.int .i64 r.2] s)->FN prog 80 [sF 1 b_0,.int .i64 ay,.bool aj] s Q:=by
 intro h
 refine FO DV rfl rfl ?_
 revert h
 rw[ug,bD]
 repeat'(first
  |(with_reducible first|exact dh|refine b9 ?_ ?_|refine dT ?_|refine ax (fun _(h:jo b_0 ay=some _)=>Ei h) (fun r1=>?_)|refine ax (fun _(h:ir b_0 r1=some _)=>xm h) (fun r2=>?_)|refine ax (fun _(h:gW b_0 (ao (r1+1)) aj=some _)=>CZ h) (fun r3=>?_)|refine ax (fun _(h:jq b_0 (ao (r1+1)) aj=some _)=>Ek h) (fun r10=>?_)|refine ax (fun _(h:ir b_0 (ao (r1+1))=some _)=>xm h) (fun r11=>?_)|refine ax (fun _(h:gV (part b_0 (ao (r1+1)) r11)=some _)=>Ef h) (fun r12=>?_)|refine ax (fun _(h:da (ix b_0 r1)=some _)=>mY h) (fun r13=>?_)|refine ax (fun _(h:fx (aC.mk (part b_0 r1 r2))=some _)=>CV h) (fun r14=>?_))
  |((with_reducible refine dI (fun((no6,s7,to8,e9):aK×(List UInt8)×Int×Int)=>⟨[(6,.loc [.int .i64 0,.int .i64 0,.int .i64 0,.int .i64 0,.int .i64 0,.str (aC.mk []).b,.sl true 4 0 [],.str (aC.mk []).b]),(8,.int .i64 r1),(9,.loc [.int .i64 no6.Kind,.int .i64 no6.bA,.int .i64 no6.To,.int .i64 no6.V.Kind,.int .i64 no6.V.N,.str no6.V.S.b,sF 4 no6.V.L,.str no6.S.b]),(13,sF 1 s7),(14,.int .i64 to8),(15,.int .i64 e9)],[],s⟩) (fun J=>?_) ?_);rotate_left;rintro⟨no6,s7,to8,e9⟩)
  |simp -implicitDefEqProofs only[go_sem,seval])
theorem gF{b_0 ay aj}{s:ab}{r:aK×Int}(h:bD b_0 ay aj=some r):FE prog 80 [sF 1 b_0,.int .i64 ay,.bool aj] s [.agg [.int .i64 r.1.Kind,.int .i64 r.1.bA,.int .i64 r.1.To,.int .i64 r.1.V.Kind,.int .i64 r.1.V.N,.str r.1.V.S.b,sF 4 r.1.V.L,.str r.1.S.b],.int .i64 r.2] s:=Eh ⟨r,h,rfl,rfl⟩
def cL(t_0:aK):Option (Bool):=some ((t_0.Kind==1)&&(t_0.V.Kind==2))
def rM:IC:=
 (ag [i1 1 (.jf 8 (.t 0)),cY 2 (.bool false)] [1]
 (ag [fa 3 0 1,ld 4 1 3,bn 5 .eql 4 1,mv 6 5,fg 7 6 true 3 1,fg 8 6 true 0 7,lg 9 6 true 1 8,im 10 6 true .eql 9 2,pf 11 6 10,mv 2 11] [2]
 .ret))
theorem Ci:aY prog 126 12 [⟨2,true,none⟩] rM=true:=by kernel_rfl
theorem C6{t_0}{s:ab}{Q:List AV->ab->Prop}:ok (cL t_0) (fun r=>Q [.bool r] s)->FN prog 126 [.agg [.int .i64 t_0.Kind,.int .i64 t_0.bA,.int .i64 t_0.To,.int .i64 t_0.V.Kind,.int .i64 t_0.V.N,.str t_0.V.S.b,sF 4 t_0.V.L,.str t_0.S.b]] s Q:=by
 intro h
 refine FO Ci rfl rfl ?_
 revert h
 rw[rM,cL]
 repeat'(first
  |simp -implicitDefEqProofs only[go_sem,seval])
theorem sq{t_0}{s:ab}{r:Bool}(h:cL t_0=some r):FE prog 126 [.agg [.int .i64 t_0.Kind,.int .i64 t_0.bA,.int .i64 t_0.To,.int .i64 t_0.V.Kind,.int .i64 t_0.V.N,.str t_0.V.S.b,sF 4 t_0.V.L,.str t_0.S.b]] s [.bool r] s:=C6 ⟨r,h,rfl,rfl⟩
structure zN where
 xI:(List Int)
 N9:Int
instance:aR zN:=⟨2,fun x=>[sF 1 x.xI,.int .i64 x.N9],(zN.mk [] 0),by decide,fun _=>rfl,fun _=>rfl⟩
end Go.AB
end
