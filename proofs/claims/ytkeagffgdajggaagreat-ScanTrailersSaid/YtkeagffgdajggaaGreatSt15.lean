/- A part. -/
import Derived.Test.YtkeagffgdajggaaGreatSt14
set_option linter.unusedSimpArgs false
set_option linter.unusedVariables false
section
set_option maxRecDepth 4000
namespace Go.AB
open Go
open Go.Proofs.Tryz (prog)
structure aa where
 Kind:Int
 N:Int
 S:aC
 L:(List aa)
mutual
def gk:aa->List AV
 |⟨k,n,s,l⟩=>[.int .i64 k,.int .i64 n,.str s.b,.sl false 4 l.length (mz l)]
def mz:List aa->List AV
 |[]=>[]
 |v::l=>gk v++mz l
end
theorem FJ(x:aa):views (gk x)=gk x:=by cases x;simp[gk,views,view]
theorem FI(x:aa):(gk x).length=4:=by cases x;simp[gk]
instance:aR aa:=⟨4,gk,⟨0,0,⟨[]⟩,[]⟩,by decide,FI,FJ⟩
theorem qi:∀l:List aa,mz l=flat l
 |[]=>by rw[mz];rfl
 |v::l=>by rw[mz,qi l];rfl
@[go_sem]theorem lG(x:aa):aR.cells x=[.int .i64 x.Kind,.int .i64 x.N,.str x.S.b,sF 4 x.L]:=by
  cases x
  show gk _=_
  rw[gk,qi]
@[go_sem]theorem D7(l:List aa)(i:Int):pad [.int .i64 0,.int .i64 0,.str [],.sl false 4 0 []] (views (AB.sub (flat l) (i.toNat*4) 4))=[.int .i64 ((ix l i).Kind),.int .i64 ((ix l i).N),.str ((ix l i).S).b,sF 4 ((ix l i).L)]:=by rw[<-lG];exact vT _ 4 l i (by rw[lG];rfl) rfl
attribute[-go_sem] cV dB cg cU
theorem aez{P:Program}{X:Prop}{fB:List (List Bool)}{ops f:List ai}{live:List Nat}{Q:Exit->St->Prop}{d:List Bool}{E φ:St}
 (h1:∀Q':St->Prop,Q' φ->NS P fB ops (fun τ=>Q' (τ.tG live)) f d E)(h2:X->Q .normal φ):X->NS P fB ops (sr live Q) f d E:=fun x=>h1 (fun τ=>Q .normal τ) (h2 x)
@[go_sem]theorem aeG:Nat.ble 1 1=true:=rfl
@[go_sem]theorem aaj{α:Type}[aR α](l:List α)(i:Int):ix l ((i.toNat:Nat):Int)=ix l i:=rfl
@[go_sem]theorem Yj(l:List Int)(n:Nat):pad [.int .i64 0] (views (AB.sub (flat l) (n*1) 1))=[.int .i64 (ix l (n:Int))]:=SC l n
theorem ib{P:Program}{f:FuncId}{as1 as2:List AV}{s:ab}{Q:List AV->ab->Prop}(e:as1=as2)(h:FN P f as1 s Q):FN P f as2 s Q:=e▸h
theorem Pw{c p:Bool}{A:Prop}(h:p=true->A):(c&&p)=true->A:=fun hh=>h (by cases c<;>simp_all)
theorem iS:Jg prog 251 5 0 249=true:=by kernel_rfl
structure ar where
 Kind:Int
 bA:Int
 To:Int
 V:aa
 S:aC
instance:aR ar:=⟨8,fun x=>[.int .i64 x.Kind,.int .i64 x.bA,.int .i64 x.To,.int .i64 x.V.Kind,.int .i64 x.V.N,.str x.V.S.b,sF 4 x.V.L,.str x.S.b],(ar.mk 0 0 0 (aa.mk 0 0 (aC.mk []) []) (aC.mk [])),by decide,fun _=>rfl,fun _=>rfl⟩
def fj(c_0:UInt8):Option (Bool):=some (((((((c_0.toNat:Int)==0)||((c_0.toNat:Int)==9))||((c_0.toNat:Int)==10))||((c_0.toNat:Int)==12))||((c_0.toNat:Int)==13))||((c_0.toNat:Int)==32))
def wv:IC:=
 (ag [cY 2 (.bool false)] [0]
 (ag [mv 3 0,bu 4 .eql 3 0,mv 5 4,bK 6 0 5 false,b6 7 5 false (.bin .eql (.t 6) (.c (.int .u8 9))),po 8 5 7,mv 9 8,bK 10 0 9 false,b6 11 9 false (.bin .eql (.t 10) (.c (.int .u8 10))),po 12 9 11,mv 13 12,bK 14 0 13 false,b6 15 13 false (.bin .eql (.t 14) (.c (.int .u8 12))),po 16 13 15,mv 17 16,bK 18 0 17 false,b6 19 17 false (.bin .eql (.t 18) (.c (.int .u8 13))),po 20 17 19,mv 21 20,bK 22 0 21 false,b6 23 21 false (.bin .eql (.t 22) (.c (.int .u8 32))),po 24 21 23,mv 2 24] [2]
 .ret))
theorem Gw:aY prog 67 25 [⟨2,true,none⟩] wv=true:=by kernel_rfl
theorem GM{c_0}{s:ab}{Q:List AV->ab->Prop}:ok (fj c_0) (fun r=>Q [.bool r] s)->FN prog 67 [.int .u8 c_0.toNat] s Q:=by
 intro h
 refine FO Gw rfl rfl ?_
 revert h
 rw[wv,fj]
 repeat'(first
  |simp -implicitDefEqProofs only[go_sem,seval])
theorem ie{c_0}{s:ab}{r:Bool}(h:fj c_0=some r):FE prog 67 [.int .u8 c_0.toNat] s [.bool r] s:=GM ⟨r,h,rfl,rfl⟩
def mR(b_0:(List UInt8))(ay:Int):Option (Int):=
 if decide (ay<0)then
  some 0
 else
  oU (
   kU (
    iter (fun((at3,rj):Int×Bool)=>
     if decide (at3<(b_0.length:Int))then
      oU (
       aH (0<=at3/\at3<b_0.length)<|
       if rj then
        some (.inl ((((ix b_0 at3).toNat:Int)!=10)&&(((ix b_0 at3).toNat:Int)!=13)))
       else
        if((ix b_0 at3).toNat:Int)==37 then
         some (.inl true)
        else
         ba (fj (ix b_0 at3)) fun r11=>
         if !r11 then
          some (.inr at3)
         else
          some (.inl rj)) (fun(vP:Bool)=>
       some (.inl (ao (at3+1),vP)))
      (fun(t10:Int)=>some (.inr (.inr t10)))
     else
      some (.inr (.inl ()))) (ay,false)) (fun(_:Unit)=>
    some (.inl ()))
   (fun(t6:Int)=>some (.inr t6))) (fun(_:Unit)=>
   some (b_0.length:Int))
  (fun(t2:Int)=>some t2)
def zG:IC:=
 (ag [mi 4 0] [0,1]
 (.seq (ag [mv 7 1,bn 8 .lss 7 0] [0,1,8]
 (.cond (.t 8) (ag [mi 4 0] [4]
 .ret)
 .skip))
 (ag [cY 5 (.bool false)] [0,1,5]
 (.join [(0,true)] (.block 0 (.loop [(0,true),(1,false),(5,false)] (.seq (ag [mv 9 1,mv 10 0,le 11 0 10,bt 12 .lss 9 11] [0,1,5,12]
 (.cond (.t 12) .skip
 (.exit 0)))
 (.join [(0,true),(1,false),(5,false)] (.block 1 (ag [mv 15 0,mv 16 1,ia 17 [.int .u8 0] 15 16,ld 18 1 17,mv 6 18] [0,1,5,6]
 (.block 2 (ag [mv 20 5,mv 19 20] [0,1,5,6,19]
 (.cond (.t 19) (.bP none [mv 21 6,bu 22 .neq 21 10,mv 23 22,bK 24 6 23 true,b6 25 23 true (.bin .neq (.t 24) (.c (.int .u8 13))),pf 26 23 25,mv 5 26] [0,1,5])
 (ag [mv 28 6,bu 29 .eql 28 37,mv 27 29] [0,1,5,6,27]
 (.cond (.t 27) (.bP none [cY 5 (.bool true)] [0,1,5])
 (ag [mv 31 6,c1 32 67 31,no 33 32,mv 30 33] [0,1,5,30]
 (.cond (.t 30) (ag [mv 34 1,mv 4 34] [4]
 .ret)
 .skip)))))))))
 (.bP none [mv 13 1,bn 14 .add 13 1,mv 1 14] [0,1,5])))))
 (ag [mt 35 0,le 36 0 35,mv 4 36] [4]
 .ret)))))
theorem I4:aY prog 179 37 [⟨4,true,none⟩] zG=true:=by kernel_rfl
theorem Jd{b_0 ay}{s:ab}{Q:List AV->ab->Prop}:ok (mR b_0 ay) (fun r=>Q [.int .i64 r] s)->FN prog 179 [sF 1 b_0,.int .i64 ay] s Q:=by
 intro h
 refine FO I4 rfl rfl ?_
 revert h
 rw[zG,mR]
 repeat'(first
  |(with_reducible first|exact dh|refine b9 ?_ ?_|refine dT ?_|refine ax (fun _(h:fj (ix b_0 at3)=some _)=>ie h) (fun r11=>?_))
  |((with_reducible refine bV (live:=[(0,true),(1,false),(5,false)]) (fun(vP:Bool)=>⟨[(0,sF 1 b_0),(1,.int .i64 at3),(5,.bool vP)],[],s⟩) (fun J=>?_) ?_);rotate_left;rintro vP)
  |((with_reducible refine ch (fun((at3,rj):Int×Bool)=>⟨[(0,sF 1 b_0),(1,.int .i64 at3),(5,.bool rj)],[],s⟩) ?_ ?_);(first|exact rfl|simp -implicitDefEqProofs only[go_sem,seval]);rintro J ⟨at3,rj⟩)
  |((with_reducible refine bV (live:=[(0,true)]) (fun(_:Unit)=>⟨[(0,sF 1 b_0)],[],s⟩) (fun J=>?_) ?_);rotate_left;rintro _)
  |simp -implicitDefEqProofs only[go_sem,seval])
theorem Jc{b_0 ay}{s:ab}{r:Int}(h:mR b_0 ay=some r):FE prog 179 [sF 1 b_0,.int .i64 ay] s [.int .i64 r] s:=Jd ⟨r,h,rfl,rfl⟩
structure ak where
 Builder:zo
 b_:(List UInt8)
 at_:Int
 aB:Bool
def cG(s_0:aC)(c_1:UInt8):Option (Int):=
 ba (dE s_0 c_1) fun r1=>
 some r1
def lj:IC:=
 (ag [mi 4 0] [0,1]
 (ag [mv 5 0,mv 6 1,c2 7 178 5 6,mv 4 7] [4]
 .ret))
theorem rV:aY prog 122 8 [⟨4,true,none⟩] lj=true:=by kernel_rfl
theorem sA{s_0 c_1}{s:ab}{Q:List AV->ab->Prop}:ok (cG s_0 c_1) (fun r=>Q [.int .i64 r] s)->FN prog 122 [.str s_0.b,.int .u8 c_1.toNat] s Q:=by
 intro h
 refine FO rV rfl rfl ?_
 revert h
 rw[lj,cG]
 repeat'(first
  |with_reducible refine ax (fun _(h:dE s_0 c_1=some _)=>og h) (fun r1=>?_)
  |simp -implicitDefEqProofs only[go_sem,seval])
theorem lC{s_0 c_1}{s:ab}{r:Int}(h:cG s_0 c_1=some r):FE prog 122 [.str s_0.b,.int .u8 c_1.toNat] s [.int .i64 r] s:=sA ⟨r,h,rfl,rfl⟩
def jz(c_0:UInt8):Option (Bool):=
 ba (cG (aC.mk [40,41,60,62,91,93,123,125,47,37]) c_0) fun r1=>
 some (decide (r1>=0))
def wu:IC:=
 (ag [cY 2 (.bool false)] [0]
 (ag [mv 3 0,i1 4 (.call 122 [(.c (.str [40,41,60,62,91,93,123,125,47,37])),(.t 3)]),bn 5 .geq 4 0,mv 2 5] [2]
 .ret))
theorem Gv:aY prog 68 6 [⟨2,true,none⟩] wu=true:=by kernel_rfl
theorem GL{c_0}{s:ab}{Q:List AV->ab->Prop}:ok (jz c_0) (fun r=>Q [.bool r] s)->FN prog 68 [.int .u8 c_0.toNat] s Q:=by
 intro h
 refine FO Gv rfl rfl ?_
 revert h
 rw[wu,jz]
 repeat'(first
  |with_reducible refine ax (fun _(h:cG (aC.mk [40,41,60,62,91,93,123,125,47,37]) c_0=some _)=>lC h) (fun r1=>?_)
  |simp -implicitDefEqProofs only[go_sem,seval])
theorem pU{c_0}{s:ab}{r:Bool}(h:jz c_0=some r):FE prog 68 [.int .u8 c_0.toNat] s [.bool r] s:=GL ⟨r,h,rfl,rfl⟩
def dy(c_0:UInt8):Option (Bool):=
 ba (fj c_0) fun r1=>
 ba (dQ (!r1) false (jz c_0)) fun r2=>
 some ((!r1)&&(!r2))
def rB:IC:=
 (ag [cY 2 (.bool false)] [0]
 (.seq (.bP (some 6) [mv 3 0,c1 4 67 3,no 5 4,mv 6 5,bK 7 0 6 true,Fm 8 6 true 68 7,b6 9 6 true (.un .not (.t 8)),pf 10 6 9,mv 2 10] [2])
 .ret))
theorem B7:aY prog 215 11 [⟨2,true,none⟩] rB=true:=by kernel_rfl
theorem Cm{c_0}{s:ab}{Q:List AV->ab->Prop}:ok (dy c_0) (fun r=>Q [.bool r] s)->FN prog 215 [.int .u8 c_0.toNat] s Q:=by
 intro h
 refine FO B7 rfl rfl ?_
 revert h
 rw[rB,dy]
 repeat'(first
  |(with_reducible first|refine dF (fun _(h:fj c_0=some _)=>ie h) (fun _=>rfl) (fun r1=>?_)|refine c8 rfl (fun _(h:jz c_0=some _)=>pU h) (fun _=>rfl) (fun r2=>?_))
  |simp -implicitDefEqProofs only[go_sem,seval])
theorem rZ{c_0}{s:ab}{r:Bool}(h:dy c_0=some r):FE prog 215 [.int .u8 c_0.toNat] s [.bool r] s:=Cm ⟨r,h,rfl,rfl⟩
def eJ(s_0:ak):Option (aC×Bool×ak):=
 jn (
  iter (fun(o3:ak)=>
   aH ((decide (o3.at_<(o3.b_.length:Int)))=true->0<=o3.at_/\o3.at_<o3.b_.length)<|
   ba (dQ (decide (o3.at_<(o3.b_.length:Int))) false (dy (ix o3.b_ o3.at_))) fun r6=>
   if(decide (o3.at_<(o3.b_.length:Int)))&&r6 then
    some (.inl (ak.mk o3.Builder o3.b_ (ao (o3.at_+1)) o3.aB))
   else
    some (.inr o3)) s_0) fun(o2:ak)=>
 aH (0<=s_0.at_/\s_0.at_<=o2.at_/\o2.at_<=o2.b_.length)<|
 some (aC.mk (part o2.b_ s_0.at_ o2.at_),(decide (o2.at_<(o2.b_.length:Int)))||o2.aB,o2)
def oO:IC:=
 (ag [cY 2 (.str []),cY 3 (.bool false)] [0]
 (ag [mv 5 0,nc 6 5,fa 7 3 6,i1 8 (.bM vm false (.t 7)),mv 4 8] [0,4]
 (.join [(0,false),(4,false)] (.block 0 (.loop [(0,false),(4,false)] (.seq (.seq (.bP (some 23) [mv 9 0,nc 10 9,fa 11 3 10,i1 12 (.bM vm false (.t 11)),mv 13 0,nc 14 13,fa 15 2 14,i1 16 (.bM [.sl false 1 0 []] false (.t 15)),le 17 0 16,bt 18 .lss 12 17,mv 19 18,bK 20 0 19 true,b6 21 19 true (.nilCheck (.t 20)),fg 22 19 true 2 21,b6 23 19 true (.bM [.sl false 1 0 []] false (.t 22)),bK 24 0 19 true,b6 25 19 true (.nilCheck (.t 24)),fg 26 19 true 3 25,b6 27 19 true (.bM vm false (.t 26)),b6 28 19 true (.indexAddr [.int .u8 0] (.t 23) (.t 27)),lg 29 19 true 1 28,Fm 30 19 true 215 29,pf 31 19 30] [0,4,31])
 (.cond (.t 31) .skip
 (.exit 0)))
 (.block 1 (.bP none [mv 32 0,nc 33 32,fa 34 3 33,i1 35 (.bM vm false (.t 34)),bn 36 .add 35 1,nc 37 32,fa 38 3 37,st 1 38 36] [0,4])))))
 (.seq (.bP (some 29) [mv 39 0,nc 40 39,fa 41 2 40,i1 42 (.bM [.sl false 1 0 []] false (.t 41)),mv 43 4,mv 44 0,nc 45 44,fa 46 3 45,i1 47 (.bM vm false (.t 46)),i1 48 (.slice 1 (.t 42) (some (.t 43)) (some (.t 47)) none),i1 49 (.eP (.t 48)),mv 50 0,nc 51 50,fa 52 3 51,i1 53 (.bM vm false (.t 52)),mv 54 0,nc 55 54,fa 56 2 55,i1 57 (.bM [.sl false 1 0 []] false (.t 56)),le 58 0 57,bt 59 .lss 53 58,mv 60 59,bK 61 0 60 false,b6 62 60 false (.nilCheck (.t 61)),fg 63 60 false 4 62,b6 64 60 false (.bM [.bool false] false (.t 63)),po 65 60 64,mv 2 49,mv 3 65] [2,3])
 .ret))))
theorem yd:aY prog 220 66 [⟨2,true,none⟩,⟨3,true,none⟩] oO=true:=by kernel_rfl
theorem pa{s_0}{B0:Nat}{s:ab}{Q:List AV->ab->Prop}(hB0:s B0=some (.cells [dA 251 B0 0 s_0.Builder,di s_0.Builder,sF 1 s_0.b_,.int .i64 s_0.at_,.bool s_0.aB])):ok (eJ s_0) (fun r=>Q [.str r.1.b,.bool r.2.1] (s.set B0 (.cells [dA 251 B0 0 r.2.2.Builder,di r.2.2.Builder,sF 1 r.2.2.b_,.int .i64 r.2.2.at_,.bool r.2.2.aB])))->FN prog 220 [.ref B0 0] s Q:=by
 have hS:s=(s.set B0 (.cells [dA 251 B0 0 s_0.Builder,di s_0.Builder,sF 1 s_0.b_,.int .i64 s_0.at_,.bool s_0.aB])):=by simp only[eW hB0]
 rw[hS]
 intro h
 refine FO yd rfl rfl ?_
 revert h
 rw[oO,eJ]
 repeat'(first
  |(with_reducible first|exact dh|refine b9 ?_ ?_|refine c8 rfl (fun _(h:dy (ix o3.b_ o3.at_)=some _)=>rZ h) (fun _=>rfl) (fun r6=>?_))
  |((with_reducible refine ch (fun(o3:ak)=>⟨[(0,.ref B0 0),(4,.int .i64 s_0.at_)],[],(s.set B0 (.cells [dA 251 B0 0 o3.Builder,di o3.Builder,sF 1 o3.b_,.int .i64 o3.at_,.bool o3.aB]))⟩) ?_ ?_);(first|exact rfl|simp -implicitDefEqProofs only[go_sem,seval]);rintro J o3)
  |((with_reducible refine dI (fun(o2:ak)=>⟨[(0,.ref B0 0),(4,.int .i64 s_0.at_)],[],(s.set B0 (.cells [dA 251 B0 0 o2.Builder,di o2.Builder,sF 1 o2.b_,.int .i64 o2.at_,.bool o2.aB]))⟩) (fun J=>?_) ?_);rotate_left;rintro o2)
  |simp -implicitDefEqProofs only[go_sem,seval])
def bL(s_0:aC)(prefix_1:aC):Option (Bool):=
 aH ((decide ((s_0.b.length:Int)>=(prefix_1.b.length:Int)))=true->0<=(0:Int)/\0<=(prefix_1.b.length:Int)/\(prefix_1.b.length:Int)<=s_0.b.length)<|
 some ((decide ((s_0.b.length:Int)>=(prefix_1.b.length:Int)))&&((aC.mk (part s_0.b 0 (prefix_1.b.length:Int))).b==prefix_1.b))
def eZ:IC:=
 (ag [cY 4 (.bool false)] [0,1]
 (ag [mv 5 0,le 6 1 5,mv 7 1,le 8 1 7,bt 9 .geq 6 8,mv 10 9,bK 11 0 10 true,bK 12 1 10 true,b6 13 10 true (.len 1 (.t 12)),b6 14 10 true (.js (.t 11) none (some (.t 13))),bK 15 1 10 true,sm 16 10 true .eql 14 15,pf 17 10 16,mv 4 17] [4]
 .ret))
theorem jI:aY prog 324 18 [⟨4,true,none⟩] eZ=true:=by kernel_rfl
theorem jH{s_0 prefix_1}{s:ab}{Q:List AV->ab->Prop}:ok (bL s_0 prefix_1) (fun r=>Q [.bool r] s)->FN prog 324 [.str s_0.b,.str prefix_1.b] s Q:=by
 intro h
 refine FO jI rfl rfl ?_
 revert h
 rw[eZ,bL]
 repeat'(first
  |simp -implicitDefEqProofs only[go_sem,seval])
theorem jG{s_0 prefix_1}{s:ab}{r:Bool}(h:bL s_0 prefix_1=some r):FE prog 324 [.str s_0.b,.str prefix_1.b] s [.bool r] s:=jH ⟨r,h,rfl,rfl⟩
def bW(s_0:aC)(prefix_1:aC):Option (Bool):=
 ba (bL s_0 prefix_1) fun r1=>
 some r1
def lh:IC:=
 (ag [cY 4 (.bool false)] [0,1]
 (ag [mv 5 0,mv 6 1,c2 7 324 5 6,mv 4 7] [4]
 .ret))
theorem rU:aY prog 288 8 [⟨4,true,none⟩] lh=true:=by kernel_rfl
theorem sy{s_0 prefix_1}{s:ab}{Q:List AV->ab->Prop}:ok (bW s_0 prefix_1) (fun r=>Q [.bool r] s)->FN prog 288 [.str s_0.b,.str prefix_1.b] s Q:=by
 intro h
 refine FO rU rfl rfl ?_
 revert h
 rw[lh,bW]
 repeat'(first
  |with_reducible refine ax (fun _(h:bL s_0 prefix_1=some _)=>jG h) (fun r1=>?_)
  |simp -implicitDefEqProofs only[go_sem,seval])
theorem lA{s_0 prefix_1}{s:ab}{r:Bool}(h:bW s_0 prefix_1=some r):FE prog 288 [.str s_0.b,.str prefix_1.b] s [.bool r] s:=sy ⟨r,h,rfl,rfl⟩
def cw(s_0:aC)(jE:aC):Option (aC×aC×Bool):=
 ba (dW s_0 jE) fun r1=>
 if decide (r1>=0)then
  aH (0<=(0:Int)/\0<=r1/\r1<=s_0.b.length)<|
  aH (0<=ao (r1+(jE.b.length:Int))/\ao (r1+(jE.b.length:Int))<=(s_0.b.length:Int)/\(s_0.b.length:Int)<=s_0.b.length)<|
  some (aC.mk (part s_0.b 0 r1),aC.mk (part s_0.b (ao (r1+(jE.b.length:Int))) (s_0.b.length:Int)),true)
 else
  some (s_0,(aC.mk []),false)
def gK:IC:=
 (ag [cY 4 (.str []),cY 5 (.str []),cY 6 (.bool false)] [0,1]
 (.seq (ag [mv 8 0,mv 9 1,c2 10 351 8 9,mv 7 10] [0,1,7]
 (ag [mv 11 7,bn 12 .geq 11 0] [0,1,7,12]
 (.cond (.t 12) (.seq (.bP (some 12) [mv 13 0,mv 14 7,i1 15 (.js (.t 13) none (some (.t 14))),mv 16 0,mv 17 7,mv 18 1,le 19 1 18,bt 20 .add 17 19,i1 21 (.js (.t 16) (some (.t 20)) none),mv 4 15,mv 5 21,cY 6 (.bool true)] [4,5,6])
 .ret)
 .skip)))
 (ag [mv 22 0,mv 4 22,cY 5 (.str []),cY 6 (.bool false)] [4,5,6]
 .ret)))
theorem l7:aY prog 325 23 [⟨4,true,none⟩,⟨5,true,none⟩,⟨6,true,none⟩] gK=true:=by kernel_rfl
theorem l5{s_0 jE}{s:ab}{Q:List AV->ab->Prop}:ok (cw s_0 jE) (fun r=>Q [.str r.1.b,.str r.2.1.b,.bool r.2.2] s)->FN prog 325 [.str s_0.b,.str jE.b] s Q:=by
 intro h
 refine FO l7 rfl rfl ?_
 revert h
 rw[gK,cw]
 repeat'(first
  |with_reducible refine ax (fun _(h:dW s_0 jE=some _)=>sB h) (fun r1=>?_)
  |simp -implicitDefEqProofs only[go_sem,seval])
theorem l4{s_0 jE}{s:ab}{r:aC×aC×Bool}(h:cw s_0 jE=some r):FE prog 325 [.str s_0.b,.str jE.b] s [.str r.1.b,.str r.2.1.b,.bool r.2.2] s:=l5 ⟨r,h,rfl,rfl⟩
def hG(s_0:aC)(jE:aC):Option (aC×aC×Bool):=
 ba (cw s_0 jE) fun r1=>
 some (r1.1,r1.2.1,r1.2.2)
def rO:IC:=
 (ag [cY 4 (.str []),cY 5 (.str []),cY 6 (.bool false)] [0,1]
 (ag [mv 7 0,mv 8 1,c2 9 325 7 8,ex 10 9 0,ex 11 9 1,ex 12 9 2,mv 4 10,mv 5 11,mv 6 12] [4,5,6]
 .ret))
theorem Ck:aY prog 289 13 [⟨4,true,none⟩,⟨5,true,none⟩,⟨6,true,none⟩] rO=true:=by kernel_rfl
theorem Dp{s_0 jE}{s:ab}{Q:List AV->ab->Prop}:ok (hG s_0 jE) (fun r=>Q [.str r.1.b,.str r.2.1.b,.bool r.2.2] s)->FN prog 289 [.str s_0.b,.str jE.b] s Q:=by
 intro h
 refine FO Ck rfl rfl ?_
 revert h
 rw[rO,hG]
 repeat'(first
  |with_reducible refine ax (fun _(h:cw s_0 jE=some _)=>l4 h) (fun r1=>?_)
  |simp -implicitDefEqProofs only[go_sem,seval])
theorem Dm{s_0 jE}{s:ab}{r:aC×aC×Bool}(h:hG s_0 jE=some r):FE prog 289 [.str s_0.b,.str jE.b] s [.str r.1.b,.str r.2.1.b,.bool r.2.2] s:=Dp ⟨r,h,rfl,rfl⟩
def eT(s_0:aC):Option (Int):=
 aH (((s_0.b.length+(aC.mk [48,48,48,48,48,48]).b.length:Nat):Int)<=Kz)<|
 aH (0<=(0:Int)/\0<=6/\6<=(aC.mk (s_0.b++(aC.mk [48,48,48,48,48,48]).b)).b.length)<|
 ba (jk (aC.mk (part (aC.mk (s_0.b++(aC.mk [48,48,48,48,48,48]).b)).b 0 6))) fun r1=>
 some r1.1
def nz:IC:=
 (ag [mi 2 0] [0]
 (ag [mv 5 0,i1 6 (.bin .add (.t 5) (.c (.str [48,48,48,48,48,48]))),i1 7 (.js (.t 6) none (some (.c (.int .i64 6)))),mv 0 7] [0]
 (ag [mv 9 0,c1 10 291 9,jJ 8 10,ex 11 8 0,ex 12 8 1,mv 3 11,mv 4 12] [3]
 (ag [mv 13 3,mv 2 13] [2]
 .ret))))
theorem wQ:aY prog 292 14 [⟨2,true,none⟩] nz=true:=by kernel_rfl
theorem xa{s_0}{s:ab}{Q:List AV->ab->Prop}:ok (eT s_0) (fun r=>Q [.int .i64 r] s)->FN prog 292 [.str s_0.b] s Q:=by
 intro h
 refine FO wQ rfl rfl ?_
 revert h
 rw[nz,eT]
 repeat'(first
  |(with_reducible first|exact dh|refine b9 ?_ ?_)
  |((fail_if_success (have _x:=r1));with_reducible refine ax (fun _ h=>uz h) (fun r1=>?_))
  |simp -implicitDefEqProofs only[go_sem,seval])
theorem w9{s_0}{s:ab}{r:Int}(h:eT s_0=some r):FE prog 292 [.str s_0.b] s [.int .i64 r] s:=xa ⟨r,h,rfl,rfl⟩
def kH(v_0:aa):Option (Int):=
 oU (
  if v_0.Kind==2 then
   some (.inl 2147483647)
  else
   if v_0.Kind==3 then
    some (.inl 2147483647000000)
   else
    some (.inr (2:Int))) (fun(Cn:Int)=>
  if(((decide (v_0.N<ao (0 -Cn)))||(decide (v_0.N>Cn)))||(!(v_0.S.b==(aC.mk []).b)))||(decide ((v_0.L.length:Int)>0))then
   some 2
  else
   some 0)
 (fun(t3:Int)=>some t3)
def wx:IC:=
 (ag [i1 1 (.jf 4 (.t 0)),mi 2 0] [1]
 (ag [mi 3 0] [1]
 (.join [(1,false),(3,false)] (ag [fa 4 0 1,ld 5 1 4] [1,5]
 (.block 0 (ag [bn 7 .eql 5 2,mv 6 7] [1,5,6]
 (.cond (.t 6) (.bP none [mi 3 2147483647] [1,3])
 (ag [bn 9 .eql 5 3,mv 8 9] [1,8]
 (.cond (.t 8) (.bP none [mi 3 2147483647000000] [1,3])
 (ag [mi 2 2] [2]
 .ret)))))))
 (.seq (ag [fa 10 1 1,ld 11 1 10,mv 12 3,i1 13 (.un .neg (.t 12)),bt 14 .lss 11 13,mv 15 14,fg 16 15 false 1 1,lg 17 15 false 1 16,bK 18 3 15 false,sm 19 15 false .gtr 17 18,po 20 15 19,mv 21 20,fg 22 21 false 2 1,lg 23 21 false 1 22,b6 24 21 false (.bin .neq (.t 23) (.c (.str []))),po 25 21 24,mv 26 25,fg 27 26 false 3 1,lg 28 26 false 1 27,b6 29 26 false (.len 0 (.t 28)),im 30 26 false .gtr 29 0,po 31 26 30] [31]
 (.cond (.t 31) (ag [mi 2 2] [2]
 .ret)
 .skip))
 (ag [mi 2 0] [2]
 .ret)))))
theorem Gx:aY prog 293 32 [⟨2,true,none⟩] wx=true:=by kernel_rfl
theorem GW{v_0}{s:ab}{Q:List AV->ab->Prop}:ok (kH v_0) (fun r=>Q [.int .i64 r] s)->FN prog 293 [.agg [.int .i64 v_0.Kind,.int .i64 v_0.N,.str v_0.S.b,sF 4 v_0.L]] s Q:=by
 intro h
 refine FO Gx rfl rfl ?_
 revert h
 rw[wx,kH]
 repeat'(first
  |((with_reducible refine bV (fun(Cn:Int)=>⟨[(1,.loc [.int .i64 v_0.Kind,.int .i64 v_0.N,.str v_0.S.b,sF 4 v_0.L]),(3,.int .i64 Cn)],[],s⟩) (fun J=>?_) ?_);rotate_left;rintro Cn)
  |simp -implicitDefEqProofs only[go_sem,seval])
theorem GV{v_0}{s:ab}{r:Int}(h:kH v_0=some r):FE prog 293 [.agg [.int .i64 v_0.Kind,.int .i64 v_0.N,.str v_0.S.b,sF 4 v_0.L]] s [.int .i64 r] s:=GW ⟨r,h,rfl,rfl⟩
def kI(s_0:aC):Option (aa×Int):=
 jn (
  ba (bW s_0 (aC.mk [45])) fun r4=>
  if r4 then
   aH (0<=(1:Int)/\1<=(s_0.b.length:Int)/\(s_0.b.length:Int)<=s_0.b.length)<|
   some ((-1),aC.mk (part s_0.b 1 (s_0.b.length:Int)))
  else
   ba (bW s_0 (aC.mk [43])) fun r5=>
   if r5 then
    aH (0<=(1:Int)/\1<=(s_0.b.length:Int)/\(s_0.b.length:Int)<=s_0.b.length)<|
    some (1,aC.mk (part s_0.b 1 (s_0.b.length:Int)))
   else
    some (1,s_0)) fun((Dd,H7):Int×aC)=>
 ba (hG H7 (aC.mk [46])) fun r6=>
 ba (dQ (!((ao ((r6.1.b.length:Int)+(r6.2.1.b.length:Int)))==0)) false (kN r6.1)) fun r7=>
 ba (dQ (!(((ao ((r6.1.b.length:Int)+(r6.2.1.b.length:Int)))==0)||(!r7))) false (kN r6.2.1)) fun r8=>
 if(((ao ((r6.1.b.length:Int)+(r6.2.1.b.length:Int)))==0)||(!r7))||(!r8)then
  some ((aa.mk 0 0 (aC.mk []) ([]:List aa)),11)
 else
  aH ((((aC.mk [48]).b.length+r6.1.b.length:Nat):Int)<=Kz)<|
  ba (jk (aC.mk ((aC.mk [48]).b++r6.1.b))) fun r9=>
  if r9.2 !=0 then
   some ((aa.mk 0 0 (aC.mk []) ([]:List aa)),r9.2)
  else
   if !r6.2.2 then
    some ((aa.mk 2 (ao (Dd*r9.1)) (aC.mk []) ([]:List aa)),0)
   else
    ba (eT r6.2.1) fun r10=>
    ba (kH (aa.mk 3 (ao (Dd*(ao ((ao (r9.1*1000000))+r10)))) (aC.mk []) ([]:List aa))) fun r11=>
    if r11 !=0 then
     some ((aa.mk 0 0 (aC.mk []) ([]:List aa)),5)
    else
     some ((aa.mk 3 (ao (Dd*(ao ((ao (r9.1*1000000))+r10)))) (aC.mk []) ([]:List aa)),0)
def wy:IC:=
 (ag [i1 2 (.aA dD),mi 3 0] [0,2]
 (ag [mi 4 1] [0,2,4]
 (ag [mv 12 0,mv 5 12] [0,2,4,5]
 (.join [(2,false),(4,false),(5,false)] (.block 0 (ag [mv 14 0,i1 15 (.call 288 [(.t 14),(.c (.str [45]))]),mv 13 15] [0,2,4,5,13]
 (.cond (.t 13) (.bP (some 4) [mv 16 0,i1 17 (.js (.t 16) (some (.c (.int .i64 1))) none),mi 4 (-1),mv 5 17] [2,4,5])
 (ag [mv 19 0,i1 20 (.call 288 [(.t 19),(.c (.str [43]))]),mv 18 20] [0,2,4,5,18]
 (.cond (.t 18) (.bP none [mv 21 0,i1 22 (.js (.t 21) (some (.c (.int .i64 1))) none),mv 5 22] [2,4,5])
 .skip)))))
 (ag [mv 24 5,i1 25 (.call 289 [(.t 24),(.c (.str [46]))]),jJ 23 25,ex 26 23 0,ex 27 23 1,ex 28 23 2,mv 6 26,mv 7 27,mv 8 28] [2,4,6,7,8]
 (.seq (.seq (.bP (some 14) [mv 29 6,le 30 1 29,mv 31 7,le 32 1 31,bt 33 .add 30 32,bn 34 .eql 33 0,mv 35 34,bK 36 6 35 false,Fm 37 35 false 290 36,b6 38 35 false (.un .not (.t 37)),po 39 35 38,mv 40 39,bK 41 7 40 false,Fm 42 40 false 290 41,b6 43 40 false (.un .not (.t 42)),po 44 40 43] [2,4,6,7,8,44])
 (.cond (.t 44) (ag [i1 45 (.build dD []),st 4 2 45,mi 3 11] [2,3]
 .ret)
 .skip))
 (ag [mv 47 6,i1 48 (.bin .add (.c (.str [48])) (.t 47)),c1 49 291 48,jJ 46 49,ex 50 46 0,ex 51 46 1,mv 9 50,mv 10 51] [2,4,7,8,9,10]
 (.seq (ag [mv 52 10,bn 53 .neq 52 0] [2,4,7,8,9,10,53]
 (.cond (.t 53) (ag [i1 54 (.build dD []),mv 55 10,st 4 2 54,mv 3 55] [2,3]
 .ret)
 .skip))
 (.seq (ag [mv 56 8,no 57 56] [2,4,7,9,57]
 (.cond (.t 57) (ag [mv 58 4,mv 59 9,bt 60 .mul 58 59,i1 61 (.build dD [(0,1,(.c (.int .i64 2))),(1,1,(.t 60))]),st 4 2 61,mi 3 0] [2,3]
 .ret)
 .skip))
 (ag [mv 62 4,mv 63 9,bn 64 .mul 63 1000000,mv 65 7,c1 66 292 65,bt 67 .add 64 66,bt 68 .mul 62 67,i1 69 (.build dD [(0,1,(.c (.int .i64 3))),(1,1,(.t 68))]),i1 11 (.aA dD),st 4 11 69] [2,11]
 (.seq (ag [lm 70 4 11,c1 71 293 70,bn 72 .neq 71 0] [2,11,72]
 (.cond (.t 72) (ag [i1 73 (.build dD []),st 4 2 73,mi 3 5] [2,3]
 .ret)
 .skip))
 (ag [lm 74 4 11,st 4 2 74,mi 3 0] [2,3]
 .ret))))))))))))
theorem Gy:aY prog 252 75 [⟨2,false,some (4,true)⟩,⟨3,true,none⟩] wy=true:=by kernel_rfl
theorem GY{s_0}{s:ab}{Q:List AV->ab->Prop}:ok (kI s_0) (fun r=>Q [.agg [.int .i64 r.1.Kind,.int .i64 r.1.N,.str r.1.S.b,sF 4 r.1.L],.int .i64 r.2] s)->FN prog 252 [.str s_0.b] s Q:=by
 intro h
 refine FO Gy rfl rfl ?_
 revert h
 rw[wy,kI]
 repeat'(first
  |(with_reducible first|exact dh|refine b9 ?_ ?_|refine dT ?_|refine ax (fun _(h:bW s_0 (aC.mk [45])=some _)=>lA h) (fun r4=>?_)|refine ax (fun _(h:bW s_0 (aC.mk [43])=some _)=>lA h) (fun r5=>?_)|refine ax (fun _(h:hG H7 (aC.mk [46])=some _)=>Dm h) (fun r6=>?_)|refine c8 rfl (fun _(h:kN r6.1=some _)=>Cv h) (fun _=>rfl) (fun r7=>?_)|refine c8 rfl (fun _(h:kN r6.2.1=some _)=>Cv h) (fun _=>rfl) (fun r8=>?_))
  |((fail_if_success (have _x:=r9));with_reducible refine ax (fun _ h=>uz h) (fun r9=>?_))
  |(with_reducible first|refine ax (fun _(h:eT r6.2.1=some _)=>w9 h) (fun r10=>?_)|refine ax (fun _(h:kH (aa.mk 3 (ao (Dd*(ao ((ao (r9.1*1000000))+r10)))) (aC.mk []) ([]:List aa))=some _)=>(by refine FF ?_ (GV h);simp -implicitDefEqProofs only[go_sem,seval])) (fun r11=>?_))
  |((with_reducible refine dI (fun((Dd,H7):Int×aC)=>⟨[(2,.loc [.int .i64 0,.int .i64 0,.str (aC.mk []).b,.sl true 4 0 []]),(4,.int .i64 Dd),(5,.str H7.b)],[],s⟩) (fun J=>?_) ?_);rotate_left;rintro⟨Dd,H7⟩)
  |simp -implicitDefEqProofs only[go_sem,seval])
theorem GX{s_0}{s:ab}{r:aa×Int}(h:kI s_0=some r):FE prog 252 [.str s_0.b] s [.agg [.int .i64 r.1.Kind,.int .i64 r.1.N,.str r.1.S.b,sF 4 r.1.L],.int .i64 r.2] s:=GY ⟨r,h,rfl,rfl⟩
def dU(s_0:ak):Option (ar×Int×ak):=
 ba (eJ s_0) fun r1=>
 if !r1.2.1 then
  some ((ar.mk 0 0 0 (aa.mk 0 0 (aC.mk []) ([]:List aa)) (aC.mk [])),6,r1.2.2)
 else
  aH (0<=(0:Int)/\(0:Int)<r1.1.b.length)<|
  if((((decide (((ix r1.1.b 0).toNat:Int)>=48))&&(decide (((ix r1.1.b 0).toNat:Int)<=57)))||(((ix r1.1.b 0).toNat:Int)==43))||(((ix r1.1.b 0).toNat:Int)==45))||(((ix r1.1.b 0).toNat:Int)==46)then
   ba (kI r1.1) fun r2=>
   some ((ar.mk 1 0 0 r2.1 (aC.mk [])),r2.2,r1.2.2)
  else
   some ((ar.mk 6 0 0 (aa.mk 0 0 (aC.mk []) ([]:List aa)) r1.1),0,r1.2.2)
def k9:IC:=
 (ag [i1 2 (.aA jK),mi 3 0] [0,2]
 (ag [mv 10 0,c1 11 220 10,jJ 9 11,ex 12 9 0,ex 13 9 1,mv 4 12,mv 5 13] [2,4,5]
 (.seq (ag [mv 14 5,no 15 14] [2,4,15]
 (.cond (.t 15) (ag [i1 16 (.build jK []),st 8 2 16,mi 3 6] [2,3]
 .ret)
 .skip))
 (.seq (ag [mv 17 4,i1 18 (.de (.t 17) (.c (.int .i64 0))),mv 6 18] [2,4,6]
 (ag [mv 19 6,bu 20 .geq 19 48,mv 21 20,bK 22 6 21 true,b6 23 21 true (.bin .leq (.t 22) (.c (.int .u8 57))),pf 24 21 23,mv 25 24,bK 26 6 25 false,b6 27 25 false (.bin .eql (.t 26) (.c (.int .u8 43))),po 28 25 27,mv 29 28,bK 30 6 29 false,b6 31 29 false (.bin .eql (.t 30) (.c (.int .u8 45))),po 32 29 31,mv 33 32,bK 34 6 33 false,b6 35 33 false (.bin .eql (.t 34) (.c (.int .u8 46))),po 36 33 35] [2,4,36]
 (.cond (.t 36) (ag [mv 38 4,c1 39 252 38,jJ 37 39,ex 40 37 0,ex 41 37 1,i1 7 (.aA dD),st 4 7 40,mv 8 41] [2,7,8]
 (ag [lm 42 4 7,i1 43 (.build jK [(0,1,(.c (.int .i64 1))),(3,4,(.t 42))]),mv 44 8,st 8 2 43,mv 3 44] [2,3]
 .ret))
 .skip)))
 (ag [mv 45 4,i1 46 (.build jK [(0,1,(.c (.int .i64 6))),(7,1,(.t 45))]),st 8 2 46,mi 3 0] [2,3]
 .ret)))))
theorem rS:aY prog 216 47 [⟨2,false,some (8,true)⟩,⟨3,true,none⟩] k9=true:=by kernel_rfl
theorem sa{s_0}{B0:Nat}{s:ab}{Q:List AV->ab->Prop}(hB0:s B0=some (.cells [dA 251 B0 0 s_0.Builder,di s_0.Builder,sF 1 s_0.b_,.int .i64 s_0.at_,.bool s_0.aB])):ok (dU s_0) (fun r=>Q [.agg [.int .i64 r.1.Kind,.int .i64 r.1.bA,.int .i64 r.1.To,.int .i64 r.1.V.Kind,.int .i64 r.1.V.N,.str r.1.V.S.b,sF 4 r.1.V.L,.str r.1.S.b],.int .i64 r.2.1] (s.set B0 (.cells [dA 251 B0 0 r.2.2.Builder,di r.2.2.Builder,sF 1 r.2.2.b_,.int .i64 r.2.2.at_,.bool r.2.2.aB])))->FN prog 216 [.ref B0 0] s Q:=by
 have hS:s=(s.set B0 (.cells [dA 251 B0 0 s_0.Builder,di s_0.Builder,sF 1 s_0.b_,.int .i64 s_0.at_,.bool s_0.aB])):=by simp only[eW hB0]
 rw[hS]
 intro h
 refine FO rS rfl rfl ?_
 revert h
 rw[k9,dU]
 repeat'(first
  |(with_reducible first|exact dh|refine b9 ?_ ?_|refine dT ?_|refine fun hh=>pa (B0:=B0) (by simp -implicitDefEqProofs only[go_sem,seval]<;>simp only[bG]) (cu (show ok (eJ s_0) _ from hh) fun r1=>?_)|refine ax (fun _(h:kI r1.1=some _)=>GX h) (fun r2=>?_))
  |simp -implicitDefEqProofs only[go_sem,seval])
def bq(s_0:ak):Option (UInt8×Bool):=
 if decide (s_0.at_>=(s_0.b_.length:Int))then
  some (0,false)
 else
  aH (0<=s_0.at_/\s_0.at_<s_0.b_.length)<|
  some (ix s_0.b_ s_0.at_,true)
def oM:IC:=
 (ag [cY 2 (.int .u8 0),cY 3 (.bool false)] [0]
 (.seq (.seq (.bP (some 10) [mv 4 0,nc 5 4,fa 6 3 5,i1 7 (.bM vm false (.t 6)),mv 8 0,nc 9 8,fa 10 2 9,i1 11 (.bM [.sl false 1 0 []] false (.t 10)),le 12 0 11,bt 13 .geq 7 12] [0,13])
 (.cond (.t 13) (ag [cY 2 (.int .u8 0),cY 3 (.bool false)] [2,3]
 .ret)
 .skip))
 (.seq (.bP (some 12) [mv 14 0,nc 15 14,fa 16 2 15,i1 17 (.bM [.sl false 1 0 []] false (.t 16)),mv 18 0,nc 19 18,fa 20 3 19,i1 21 (.bM vm false (.t 20)),ia 22 [.int .u8 0] 17 21,ld 23 1 22,mv 2 23,cY 3 (.bool true)] [2,3])
 .ret)))
theorem yb:aY prog 253 24 [⟨2,true,none⟩,⟨3,true,none⟩] oM=true:=by kernel_rfl
theorem yl{s_0}{B0:Nat}{s:ab}{Q:List AV->ab->Prop}(hB0:s B0=some (.cells [dA 251 B0 0 s_0.Builder,di s_0.Builder,sF 1 s_0.b_,.int .i64 s_0.at_,.bool s_0.aB])):ok (bq s_0) (fun r=>Q [.int .u8 r.1.toNat,.bool r.2] s)->FN prog 253 [.ref B0 0] s Q:=by
 have hS:s=(s.set B0 (.cells [dA 251 B0 0 s_0.Builder,di s_0.Builder,sF 1 s_0.b_,.int .i64 s_0.at_,.bool s_0.aB])):=by simp only[eW hB0]
 rw[hS]
 intro h
 refine FO yb rfl rfl ?_
 revert h
 rw[oM,bq]
 repeat'(first
  |simp -implicitDefEqProofs only[go_sem,seval])
theorem dG{s_0}{B0:Nat}{s:ab}{r:UInt8×Bool}(hB0:s B0=some (.cells [dA 251 B0 0 s_0.Builder,di s_0.Builder,sF 1 s_0.b_,.int .i64 s_0.at_,.bool s_0.aB]))(h:bq s_0=some r):FE prog 253 [.ref B0 0] s [.int .u8 r.1.toNat,.bool r.2] s:=yl hB0 ⟨r,h,rfl,rfl⟩
def bZ(s_0:ak):Option (Int):=
 if s_0.aB then
  some 10
 else
  some 6
def oL:IC:=
 (ag [mi 2 0] [0]
 (.seq (ag [mv 3 0,nc 4 3,fa 5 4 4,i1 6 (.bM [.bool false] false (.t 5))] [6]
 (.cond (.t 6) (ag [mi 2 10] [2]
 .ret)
 .skip))
 (ag [mi 2 6] [2]
 .ret)))
theorem ya:aY prog 254 7 [⟨2,true,none⟩] oL=true:=by kernel_rfl
theorem yk{s_0}{B0:Nat}{s:ab}{Q:List AV->ab->Prop}(hB0:s B0=some (.cells [dA 251 B0 0 s_0.Builder,di s_0.Builder,sF 1 s_0.b_,.int .i64 s_0.at_,.bool s_0.aB])):ok (bZ s_0) (fun r=>Q [.int .i64 r] s)->FN prog 254 [.ref B0 0] s Q:=by
 have hS:s=(s.set B0 (.cells [dA 251 B0 0 s_0.Builder,di s_0.Builder,sF 1 s_0.b_,.int .i64 s_0.at_,.bool s_0.aB])):=by simp only[eW hB0]
 rw[hS]
 intro h
 refine FO ya rfl rfl ?_
 revert h
 rw[oL,bZ]
 repeat'(first
  |simp -implicitDefEqProofs only[go_sem,seval])
theorem fT{s_0}{B0:Nat}{s:ab}{r:Int}(hB0:s B0=some (.cells [dA 251 B0 0 s_0.Builder,di s_0.Builder,sF 1 s_0.b_,.int .i64 s_0.at_,.bool s_0.aB]))(h:bZ s_0=some r):FE prog 254 [.ref B0 0] s [.int .i64 r] s:=yk hB0 ⟨r,h,rfl,rfl⟩
def gr(c_0:UInt8):Option (Int):=
 if(decide ((c_0.toNat:Int)>=48))&&(decide ((c_0.toNat:Int)<=57))then
  some (ao (((oq ((c_0.toNat:Int) -48)).toNat:Int)))
 else
  if(decide ((c_0.toNat:Int)>=97))&&(decide ((c_0.toNat:Int)<=102))then
   some (ao ((ao (((oq ((c_0.toNat:Int) -97)).toNat:Int)))+10))
  else
   if(decide ((c_0.toNat:Int)>=65))&&(decide ((c_0.toNat:Int)<=70))then
    some (ao ((ao (((oq ((c_0.toNat:Int) -65)).toNat:Int)))+10))
   else
    some (-1)
def BV:IC:=
 (ag [mi 2 0] [0]
 (.seq (.block 0 (ag [mv 4 0,bu 5 .geq 4 48,mv 6 5,bK 7 0 6 true,b6 8 6 true (.bin .leq (.t 7) (.c (.int .u8 57))),pf 9 6 8,mv 3 9] [0,3]
 (.cond (.t 3) (ag [mv 10 0,bu 11 .sub 10 48,i1 12 (.cC .i64 (.t 11)),mv 2 12] [2]
 .ret)
 (ag [mv 14 0,bu 15 .geq 14 97,mv 16 15,bK 17 0 16 true,b6 18 16 true (.bin .leq (.t 17) (.c (.int .u8 102))),pf 19 16 18,mv 13 19] [0,13]
 (.cond (.t 13) (ag [mv 20 0,bu 21 .sub 20 97,i1 22 (.cC .i64 (.t 21)),bn 23 .add 22 10,mv 2 23] [2]
 .ret)
 (ag [mv 25 0,bu 26 .geq 25 65,mv 27 26,bK 28 0 27 true,b6 29 27 true (.bin .leq (.t 28) (.c (.int .u8 70))),pf 30 27 29,mv 24 30] [0,24]
 (.cond (.t 24) (ag [mv 31 0,bu 32 .sub 31 65,i1 33 (.cC .i64 (.t 32)),bn 34 .add 33 10,mv 2 34] [2]
 .ret)
 .skip)))))))
 (ag [mi 2 (-1)] [2]
 .ret)))
theorem KK:aY prog 260 35 [⟨2,true,none⟩] BV=true:=by kernel_rfl
theorem KR{c_0}{s:ab}{Q:List AV->ab->Prop}:ok (gr c_0) (fun r=>Q [.int .i64 r] s)->FN prog 260 [.int .u8 c_0.toNat] s Q:=by
 intro h
 refine FO KK rfl rfl ?_
 revert h
 rw[BV,gr]
 repeat'(first
  |simp -implicitDefEqProofs only[go_sem,seval])
theorem mS{c_0}{s:ab}{r:Int}(h:gr c_0=some r):FE prog 260 [.int .u8 c_0.toNat] s [.int .i64 r] s:=KR ⟨r,h,rfl,rfl⟩
def eR(s_0:ak):Option (aa×Int×ak):=
 iter (fun((tV,o2):Int×ak)=>
  ba (bq o2) fun r6=>
  if !r6.2 then
   ba (bZ o2) fun r7=>
   some (.inr ((aa.mk 0 0 (aC.mk []) ([]:List aa)),r7,o2))
  else
   ba (gr r6.1) fun r8=>
   oU (
    if((r6.1.toNat:Int)==62)&&(decide (tV>=0))then
     ba (aw o2.Builder (oq (ao (16*tV)))) fun r15=>
     ba (bw r15.2) fun r16=>
     some (.inr ((aa.mk 4 0 r16.1 ([]:List aa)),(0:Int),(ak.mk r16.2 o2.b_ (ao (o2.at_+1)) o2.aB)))
    else
     if(r6.1.toNat:Int)==62 then
      ba (bw o2.Builder) fun r17=>
      some (.inr ((aa.mk 4 0 r17.1 ([]:List aa)),(0:Int),(ak.mk r17.2 o2.b_ (ao (o2.at_+1)) o2.aB)))
     else
      ba (fj r6.1) fun r18=>
      if r18 then
       some (.inl (tV,(ak.mk o2.Builder o2.b_ (ao (o2.at_+1)) o2.aB)))
      else
       if decide (r8<0)then
        some (.inr ((aa.mk 0 0 (aC.mk []) ([]:List aa)),(11:Int),(ak.mk o2.Builder o2.b_ (ao (o2.at_+1)) o2.aB)))
       else
        if decide (tV<0)then
         some (.inl (r8,(ak.mk o2.Builder o2.b_ (ao (o2.at_+1)) o2.aB)))
        else
         ba (aw o2.Builder (oq (ao ((ao (16*tV))+r8)))) fun r19=>
         some (.inl ((-1),(ak.mk r19.2 o2.b_ (ao (o2.at_+1)) o2.aB)))) (fun((Gj,o11):Int×ak)=>
    some (.inl (Gj,o11)))
   (fun((t12,t13,o14):aa×Int×ak)=>some (.inr (t12,t13,o14)))) ((-1),s_0)
def nw:IC:=
 (ag [i1 2 (.aA dD),mi 3 0] [0,2]
 (.vu 0 [(0,false),(2,false),(4,false)] (.bP none [mi 4 (-1)] [0,2,4])
 .skip
 .skip
 (ag [mv 9 0,c1 10 253 9,jJ 8 10,ex 11 8 0,ex 12 8 1,mv 5 11,mv 6 12] [0,2,4,5,6]
 (.seq (ag [mv 13 6,no 14 13] [0,2,4,5,14]
 (.cond (.t 14) (ag [i1 15 (.build dD []),mv 16 0,c1 17 254 16,st 4 2 15,mv 3 17] [2,3]
 .ret)
 .skip))
 (ag [mv 18 0,nc 19 18,fa 20 3 19,i1 21 (.bM vm false (.t 20)),bn 22 .add 21 1,nc 23 18,fa 24 3 23,st 1 24 22] [0,2,4,5]
 (ag [mv 25 5,c1 26 260 25,mv 7 26] [0,2,4,5,7]
 (.join [(0,false),(2,false),(4,false)] (.block 0 (ag [mv 37 5,bu 38 .eql 37 62,mv 39 38,bK 40 4 39 true,im 41 39 true .geq 40 0,pf 42 39 41,mv 36 42] [0,2,4,5,7,36]
 (.cond (.t 36) (ag [mv 43 0,nc 44 43,fa 45 0 44,mv 46 4,i1 47 (.bin .mul (.c (.int .i64 16)) (.t 46)),i1 48 (.cC .u8 (.t 47)),c2 49 259 45 48] [0,2]
 (ag [mv 50 0,nc 51 50,fa 52 0 51,c1 53 258 52,i1 54 (.build dD [(0,1,(.c (.int .i64 4))),(2,1,(.t 53))]),st 4 2 54,mi 3 0] [2,3]
 .ret))
 (ag [mv 56 5,bu 57 .eql 56 62,mv 55 57] [0,2,4,5,7,55]
 (.cond (.t 55) (ag [mv 58 0,nc 59 58,fa 60 0 59,c1 61 258 60,i1 62 (.build dD [(0,1,(.c (.int .i64 4))),(2,1,(.t 61))]),st 4 2 62,mi 3 0] [2,3]
 .ret)
 (ag [mv 64 5,c1 65 67 64,mv 63 65] [0,2,4,7,63]
 (.cond (.t 63) .skip
 (ag [mv 67 7,bn 68 .lss 67 0,mv 66 68] [0,2,4,7,66]
 (.cond (.t 66) (ag [i1 69 (.build dD []),st 4 2 69,mi 3 11] [2,3]
 .ret)
 (ag [mv 71 4,bn 72 .lss 71 0,mv 70 72] [0,2,4,7,70]
 (.cond (.t 70) (.bP none [mv 73 7,mv 4 73] [0,2,4])
 (ag [mv 27 0,nc 28 27,fa 29 0 28,mv 30 4,i1 31 (.bin .mul (.c (.int .i64 16)) (.t 30)),mv 32 7,bt 33 .add 31 32,i1 34 (.cC .u8 (.t 33)),c2 35 259 29 34] [0,2]
 (.bP none [mi 4 (-1)] [0,2,4])))))))))))))
 (.goto 0))))))))
theorem wM:aY prog 255 74 [⟨2,false,some (4,true)⟩,⟨3,true,none⟩] nw=true:=by kernel_rfl
theorem wS{s_0}{B0:Nat}{s:ab}{Q:List AV->ab->Prop}(hB0:s B0=some (.cells [dA 251 B0 0 s_0.Builder,di s_0.Builder,sF 1 s_0.b_,.int .i64 s_0.at_,.bool s_0.aB])):ok (eR s_0) (fun r=>Q [.agg [.int .i64 r.1.Kind,.int .i64 r.1.N,.str r.1.S.b,sF 4 r.1.L],.int .i64 r.2.1] (s.set B0 (.cells [dA 251 B0 0 r.2.2.Builder,di r.2.2.Builder,sF 1 r.2.2.b_,.int .i64 r.2.2.at_,.bool r.2.2.aB])))->FN prog 255 [.ref B0 0] s Q:=by
 have hS:s=(s.set B0 (.cells [dA 251 B0 0 s_0.Builder,di s_0.Builder,sF 1 s_0.b_,.int .i64 s_0.at_,.bool s_0.aB])):=by simp only[eW hB0]
 rw[hS]
 intro h
 refine FO wM rfl rfl ?_
 revert h
 rw[nw,eR]
 repeat'(first
  |(with_reducible first|exact dh|refine b9 ?_ ?_|refine dT ?_|refine ax (fun _(h:bq o2=some _)=>dG (B0:=B0) (by simp -implicitDefEqProofs only[go_sem,seval]<;>simp only[bG]) h) (fun r6=>?_)|refine ax (fun _(h:bZ o2=some _)=>fT (B0:=B0) (by simp -implicitDefEqProofs only[go_sem,seval]<;>simp only[bG]) h) (fun r7=>?_)|refine ax (fun _(h:gr r6.1=some _)=>mS h) (fun r8=>?_)|refine fun hh=>ib (by simp -implicitDefEqProofs only[go_sem,seval]) (bF (B0:=B0) (preB0:=[]) (postB0:=[sF 1 o2.b_,.int .i64 (ao (o2.at_+1)),.bool o2.aB]) (TB0:=251) (by simp -implicitDefEqProofs only[go_sem,seval]<;>simp only[bG]) (by first|rfl|simp) iS (cu (show ok (aw o2.Builder (oq (ao (16*tV)))) _ from hh) fun r15=>?_))|refine fun hh=>ib (by simp -implicitDefEqProofs only[go_sem,seval]) (fe (B0:=B0) (preB0:=[]) (postB0:=[sF 1 o2.b_,.int .i64 (ao (o2.at_+1)),.bool o2.aB]) (TB0:=251) (by simp -implicitDefEqProofs only[go_sem,seval]<;>simp only[bG]) (by first|rfl|simp) iS (cu (show ok (bw r15.2) _ from hh) fun r16=>?_))|refine fun hh=>ib (by simp -implicitDefEqProofs only[go_sem,seval]) (fe (B0:=B0) (preB0:=[]) (postB0:=[sF 1 o2.b_,.int .i64 (ao (o2.at_+1)),.bool o2.aB]) (TB0:=251) (by simp -implicitDefEqProofs only[go_sem,seval]<;>simp only[bG]) (by first|rfl|simp) iS (cu (show ok (bw o2.Builder) _ from hh) fun r17=>?_))|refine ax (fun _(h:fj r6.1=some _)=>ie h) (fun r18=>?_)|refine fun hh=>ib (by simp -implicitDefEqProofs only[go_sem,seval]) (bF (B0:=B0) (preB0:=[]) (postB0:=[sF 1 o2.b_,.int .i64 (ao (o2.at_+1)),.bool o2.aB]) (TB0:=251) (by simp -implicitDefEqProofs only[go_sem,seval]<;>simp only[bG]) (by first|rfl|simp) iS (cu (show ok (aw o2.Builder (oq (ao ((ao (16*tV))+r8)))) _ from hh) fun r19=>?_)))
  |((with_reducible refine bV (fun((Gj,o11):Int×ak)=>⟨[(0,.ref B0 0),(2,.loc [.int .i64 0,.int .i64 0,.str (aC.mk []).b,.sl true 4 0 []]),(4,.int .i64 Gj)],[],(s.set B0 (.cells [dA 251 B0 0 o11.Builder,di o11.Builder,sF 1 o11.b_,.int .i64 o11.at_,.bool o11.aB]))⟩) (fun J=>?_) ?_);rotate_left;rintro⟨Gj,o11⟩)
  |((with_reducible refine L6 (fun((tV,o2):Int×ak)=>⟨[(0,.ref B0 0),(2,.loc [.int .i64 0,.int .i64 0,.str (aC.mk []).b,.sl true 4 0 []]),(4,.int .i64 tV)],[],(s.set B0 (.cells [dA 251 B0 0 o2.Builder,di o2.Builder,sF 1 o2.b_,.int .i64 o2.at_,.bool o2.aB]))⟩) ?_ ?_);(first|exact rfl|simp -implicitDefEqProofs only[go_sem,seval]);rintro J ⟨tV,o2⟩)
  |simp -implicitDefEqProofs only[go_sem,seval])
def fU(s_0:ak):Option (ar×Int×ak):=
 ba (bq s_0) fun r1=>
 if !r1.2 then
  ba (bZ s_0) fun r2=>
  some ((ar.mk 0 0 0 (aa.mk 0 0 (aC.mk []) ([]:List aa)) (aC.mk [])),r2,s_0)
 else
  if(r1.1.toNat:Int)==60 then
   some ((ar.mk 4 0 0 (aa.mk 0 0 (aC.mk []) ([]:List aa)) (aC.mk [])),0,(ak.mk s_0.Builder s_0.b_ (ao (s_0.at_+1)) s_0.aB))
  else
   ba (eR s_0) fun r3=>
   some ((ar.mk 1 0 0 r3.1 (aC.mk [])),r3.2.1,r3.2.2)
def lM:IC:=
 (ag [i1 2 (.aA jK),mi 3 0] [0,2]
 (ag [mv 9 0,c1 10 253 9,jJ 8 10,ex 11 8 0,ex 12 8 1,mv 4 11,mv 5 12] [0,2,4,5]
 (.seq (ag [mv 13 5,no 14 13] [0,2,4,14]
 (.cond (.t 14) (ag [i1 15 (.build jK []),mv 16 0,c1 17 254 16,st 8 2 15,mv 3 17] [2,3]
 .ret)
 .skip))
 (.seq (ag [mv 18 4,bu 19 .eql 18 60] [0,2,19]
 (.cond (.t 19) (ag [mv 20 0,nc 21 20,fa 22 3 21,i1 23 (.bM vm false (.t 22)),bn 24 .add 23 1,nc 25 20,fa 26 3 25,st 1 26 24] [2]
 (ag [i1 27 (.build jK [(0,1,(.c (.int .i64 4)))]),st 8 2 27,mi 3 0] [2,3]
 .ret))
 .skip))
 (ag [mv 29 0,c1 30 255 29,jJ 28 30,ex 31 28 0,ex 32 28 1,i1 6 (.aA dD),st 4 6 31,mv 7 32] [2,6,7]
 (ag [lm 33 4 6,i1 34 (.build jK [(0,1,(.c (.int .i64 1))),(3,4,(.t 33))]),mv 35 7,st 8 2 34,mv 3 35] [2,3]
 .ret))))))
theorem tD:aY prog 217 36 [⟨2,false,some (8,true)⟩,⟨3,true,none⟩] lM=true:=by kernel_rfl
theorem tI{s_0}{B0:Nat}{s:ab}{Q:List AV->ab->Prop}(hB0:s B0=some (.cells [dA 251 B0 0 s_0.Builder,di s_0.Builder,sF 1 s_0.b_,.int .i64 s_0.at_,.bool s_0.aB])):ok (fU s_0) (fun r=>Q [.agg [.int .i64 r.1.Kind,.int .i64 r.1.bA,.int .i64 r.1.To,.int .i64 r.1.V.Kind,.int .i64 r.1.V.N,.str r.1.V.S.b,sF 4 r.1.V.L,.str r.1.S.b],.int .i64 r.2.1] (s.set B0 (.cells [dA 251 B0 0 r.2.2.Builder,di r.2.2.Builder,sF 1 r.2.2.b_,.int .i64 r.2.2.at_,.bool r.2.2.aB])))->FN prog 217 [.ref B0 0] s Q:=by
 have hS:s=(s.set B0 (.cells [dA 251 B0 0 s_0.Builder,di s_0.Builder,sF 1 s_0.b_,.int .i64 s_0.at_,.bool s_0.aB])):=by simp only[eW hB0]
 rw[hS]
 intro h
 refine FO tD rfl rfl ?_
 revert h
 rw[lM,fU]
 repeat'(first
  |(with_reducible first|exact dh|refine b9 ?_ ?_|refine dT ?_|refine ax (fun _(h:bq s_0=some _)=>dG (B0:=B0) (by simp -implicitDefEqProofs only[go_sem,seval]<;>simp only[bG]) h) (fun r1=>?_)|refine ax (fun _(h:bZ s_0=some _)=>fT (B0:=B0) (by simp -implicitDefEqProofs only[go_sem,seval]<;>simp only[bG]) h) (fun r2=>?_)|refine fun hh=>wS (B0:=B0) (by simp -implicitDefEqProofs only[go_sem,seval]<;>simp only[bG]) (cu (show ok (eR s_0) _ from hh) fun r3=>?_))
  |simp -implicitDefEqProofs only[go_sem,seval])
def fS(s_0:ak):Option (ar×Int×ak):=
 ba (bq s_0) fun r1=>
 if(!r1.2)&&(!s_0.aB)then
  some ((ar.mk 0 0 0 (aa.mk 0 0 (aC.mk []) ([]:List aa)) (aC.mk [])),6,s_0)
 else
  if(!r1.2)||((r1.1.toNat:Int)!=62)then
   some ((ar.mk 0 0 0 (aa.mk 0 0 (aC.mk []) ([]:List aa)) (aC.mk [])),11,s_0)
  else
   some ((ar.mk 5 0 0 (aa.mk 0 0 (aC.mk []) ([]:List aa)) (aC.mk [])),0,(ak.mk s_0.Builder s_0.b_ (ao (s_0.at_+1)) s_0.aB))
def lL:IC:=
 (ag [i1 2 (.aA jK),mi 3 0] [0,2]
 (ag [mv 7 0,c1 8 253 7,jJ 6 8,ex 9 6 0,ex 10 6 1,mv 4 9,mv 5 10] [0,2,4,5]
 (.seq (.block 0 (ag [mv 12 5,no 13 12,mv 14 13,bK 15 0 14 true,b6 16 14 true (.nilCheck (.t 15)),fg 17 14 true 4 16,b6 18 14 true (.bM [.bool false] false (.t 17)),b6 19 14 true (.un .not (.t 18)),pf 20 14 19,mv 11 20] [0,2,4,5,11]
 (.cond (.t 11) (ag [i1 21 (.build jK []),st 8 2 21,mi 3 6] [2,3]
 .ret)
 (ag [mv 23 5,no 24 23,mv 25 24,bK 26 4 25 false,b6 27 25 false (.bin .neq (.t 26) (.c (.int .u8 62))),po 28 25 27,mv 22 28] [0,2,22]
 (.cond (.t 22) (ag [i1 29 (.build jK []),st 8 2 29,mi 3 11] [2,3]
 .ret)
 .skip)))))
 (ag [mv 30 0,nc 31 30,fa 32 3 31,i1 33 (.bM vm false (.t 32)),bn 34 .add 33 1,nc 35 30,fa 36 3 35,st 1 36 34] [2]
 (ag [i1 37 (.build jK [(0,1,(.c (.int .i64 5)))]),st 8 2 37,mi 3 0] [2,3]
 .ret)))))
theorem tC:aY prog 218 38 [⟨2,false,some (8,true)⟩,⟨3,true,none⟩] lL=true:=by kernel_rfl
theorem tH{s_0}{B0:Nat}{s:ab}{Q:List AV->ab->Prop}(hB0:s B0=some (.cells [dA 251 B0 0 s_0.Builder,di s_0.Builder,sF 1 s_0.b_,.int .i64 s_0.at_,.bool s_0.aB])):ok (fS s_0) (fun r=>Q [.agg [.int .i64 r.1.Kind,.int .i64 r.1.bA,.int .i64 r.1.To,.int .i64 r.1.V.Kind,.int .i64 r.1.V.N,.str r.1.V.S.b,sF 4 r.1.V.L,.str r.1.S.b],.int .i64 r.2.1] (s.set B0 (.cells [dA 251 B0 0 r.2.2.Builder,di r.2.2.Builder,sF 1 r.2.2.b_,.int .i64 r.2.2.at_,.bool r.2.2.aB])))->FN prog 218 [.ref B0 0] s Q:=by
 have hS:s=(s.set B0 (.cells [dA 251 B0 0 s_0.Builder,di s_0.Builder,sF 1 s_0.b_,.int .i64 s_0.at_,.bool s_0.aB])):=by simp only[eW hB0]
 rw[hS]
 intro h
 refine FO tC rfl rfl ?_
 revert h
 rw[lL,fS]
 repeat'(first
  |with_reducible refine ax (fun _(h:bq s_0=some _)=>dG (B0:=B0) (by simp -implicitDefEqProofs only[go_sem,seval]<;>simp only[bG]) h) (fun r1=>?_)
  |simp -implicitDefEqProofs only[go_sem,seval])
def eS(s_0:ak)(c_1:UInt8):Option (Bool×ak):=
 oU (
  kU (
   iter (fun((n5,k6,o7):Int×Int×ak)=>
    if decide (k6<2)then
     ba (bq o7) fun r12=>
     if !r12.2 then
      if o7.aB then
       ba (aw o7.Builder (oq (n5))) fun r13=>
       some (.inr (.inr (o7.aB||false,(ak.mk r13.2 o7.b_ o7.at_ o7.aB))))
      else
       some (.inr (.inr (o7.aB||false,o7)))
     else
      if(decide ((r12.1.toNat:Int)<48))||(decide ((r12.1.toNat:Int)>55))then
       some (.inr (.inl (n5,o7)))
      else
       some (.inl (ao ((ao (8*n5))+(ao (((oq ((r12.1.toNat:Int) -48)).toNat:Int)))),ao (k6+1),(ak.mk o7.Builder o7.b_ (ao (o7.at_+1)) o7.aB)))
    else
     some (.inr (.inl (n5,o7)))) (ao (((oq ((c_1.toNat:Int) -48)).toNat:Int)),0,s_0)) (fun((n8,o9):Int×ak)=>
   some (.inl (n8,o9)))
  (fun((t10,o11):Bool×ak)=>some (.inr (t10,o11)))) (fun((n1,o2):Int×ak)=>
  ba (aw o2.Builder (oq (n1))) fun r14=>
  some (true,(ak.mk r14.2 o2.b_ o2.at_ o2.aB)))
 (fun((t3,o4):Bool×ak)=>some (t3,o4))
def nx:IC:=
 (ag [cY 4 (.bool false)] [0,1]
 (ag [mv 9 1,bu 10 .sub 9 48,i1 11 (.cC .i64 (.t 10)),mv 5 11] [0,5]
 (.join [(0,false),(5,false)] (ag [mi 6 0] [0,5,6]
 (.block 0 (.loop [(0,false),(5,false),(6,false)] (.seq (ag [mv 12 6,bn 13 .lss 12 2] [0,5,6,13]
 (.cond (.t 13) .skip
 (.exit 0)))
 (.seq (.block 1 (ag [mv 17 0,c1 18 253 17,jJ 16 18,ex 19 16 0,ex 20 16 1,mv 7 19,mv 8 20] [0,5,6,7,8]
 (.seq (ag [mv 21 8,no 22 21] [0,5,6,7,22]
 (.cond (.t 22) (ag [mv 23 0,nc 24 23,fa 25 4 24,i1 26 (.bM [.bool false] false (.t 25)),mv 27 26,bK 28 0 27 true,b6 29 27 true (.nilCheck (.t 28)),fg 30 27 true 0 29,bK 31 5 27 true,b6 32 27 true (.cC .u8 (.t 31)),qd2 33 27 true 259 30 32,b6 34 27 true (.Q7 false (.t 33)),pf 35 27 34,mv 4 35] [4]
 .ret)
 .skip))
 (.seq (ag [mv 36 7,bu 37 .lss 36 48,mv 38 37,bK 39 7 38 false,b6 40 38 false (.bin .gtr (.t 39) (.c (.int .u8 55))),po 41 38 40] [0,5,6,7,41]
 (.cond (.t 41) (.exit 0)
 .skip))
 (ag [mv 42 5,i1 43 (.bin .mul (.c (.int .i64 8)) (.t 42)),mv 44 7,bu 45 .sub 44 48,i1 46 (.cC .i64 (.t 45)),bt 47 .add 43 46,mv 5 47] [0,5,6]
 (.bP none [mv 48 0,nc 49 48,fa 50 3 49,i1 51 (.bM vm false (.t 50)),bn 52 .add 51 1,nc 53 48,fa 54 3 53,st 1 54 52] [0,5,6]))))))
 (.bP none [mv 14 6,bn 15 .add 14 1,mv 6 15] [0,5,6]))))))
 (ag [mv 55 0,nc 56 55,fa 57 0 56,mv 58 5,i1 59 (.cC .u8 (.t 58)),c2 60 259 57 59,i1 61 (.Q7 false (.t 60)),mv 4 61] [4]
 .ret))))
theorem wO:aY prog 294 62 [⟨4,true,none⟩] nx=true:=by kernel_rfl
theorem wT{s_0 c_1}{B0:Nat}{s:ab}{Q:List AV->ab->Prop}(hB0:s B0=some (.cells [dA 251 B0 0 s_0.Builder,di s_0.Builder,sF 1 s_0.b_,.int .i64 s_0.at_,.bool s_0.aB])):ok (eS s_0 c_1) (fun r=>Q [.bool r.1] (s.set B0 (.cells [dA 251 B0 0 r.2.Builder,di r.2.Builder,sF 1 r.2.b_,.int .i64 r.2.at_,.bool r.2.aB])))->FN prog 294 [.ref B0 0,.int .u8 c_1.toNat] s Q:=by
 have hS:s=(s.set B0 (.cells [dA 251 B0 0 s_0.Builder,di s_0.Builder,sF 1 s_0.b_,.int .i64 s_0.at_,.bool s_0.aB])):=by simp only[eW hB0]
 rw[hS]
 intro h
 refine FO wO rfl rfl ?_
 revert h
 rw[nx,eS]
 repeat'(first
  |((fail_if_success (have _x:=hgG1));(have _x:=o7.aB);clear _x;cases hgG1:o7.aB)
  |(with_reducible first|exact dh|refine b9 ?_ ?_|refine dT ?_|refine ax (fun _(h:bq o7=some _)=>dG (B0:=B0) (by first|(simp -implicitDefEqProofs only[go_sem,seval,hgG0];done)|(simp -implicitDefEqProofs only[go_sem,seval,hgG1];done)|(simp -implicitDefEqProofs only[go_sem,seval,hgG2];done)|(simp -implicitDefEqProofs only[go_sem,seval];done)) h) (fun r12=>?_)|refine fun hh=>ib (by simp -implicitDefEqProofs only[go_sem,seval]) (bF (B0:=B0) (preB0:=[]) (postB0:=[sF 1 o7.b_,.int .i64 o7.at_,.bool o7.aB]) (TB0:=251) (by first|(simp -implicitDefEqProofs only[go_sem,seval,hgG0];done)|(simp -implicitDefEqProofs only[go_sem,seval,hgG1];done)|(simp -implicitDefEqProofs only[go_sem,seval,hgG2];done)|(simp -implicitDefEqProofs only[go_sem,seval];done)) (by first|rfl|simp) iS (cu (show ok (aw o7.Builder (oq (n5))) _ from hh) fun r13=>?_))|refine fun hh=>ib (by simp -implicitDefEqProofs only[go_sem,seval]) (bF (B0:=B0) (preB0:=[]) (postB0:=[sF 1 o2.b_,.int .i64 o2.at_,.bool o2.aB]) (TB0:=251) (by first|(simp -implicitDefEqProofs only[go_sem,seval,hgG0];done)|(simp -implicitDefEqProofs only[go_sem,seval,hgG1];done)|(simp -implicitDefEqProofs only[go_sem,seval,hgG2];done)|(simp -implicitDefEqProofs only[go_sem,seval];done)) (by first|rfl|simp) iS (cu (show ok (aw o2.Builder (oq (n1))) _ from hh) fun r14=>?_)))
  |((with_reducible refine ch (fun((n5,k6,o7):Int×Int×ak)=>⟨[(0,.ref B0 0),(5,.int .i64 n5),(6,.int .i64 k6)],[],(s.set B0 (.cells [dA 251 B0 0 o7.Builder,di o7.Builder,sF 1 o7.b_,.int .i64 o7.at_,.bool o7.aB]))⟩) ?_ ?_);(first|exact rfl|simp -implicitDefEqProofs only[go_sem,seval]);rintro J ⟨n5,k6,o7⟩)
  |((with_reducible refine bV (fun((n1,o2):Int×ak)=>⟨[(0,.ref B0 0),(5,.int .i64 n1)],[],(s.set B0 (.cells [dA 251 B0 0 o2.Builder,di o2.Builder,sF 1 o2.b_,.int .i64 o2.at_,.bool o2.aB]))⟩) (fun J=>?_) ?_);rotate_left;rintro⟨n1,o2⟩)
  |simp -implicitDefEqProofs only[go_sem,seval,hgG1,Bool.false_eq_true,if_false,if_true,Bool.true_eq_false,false_implies,true_implies,true_and,and_true]
  |simp -implicitDefEqProofs only[go_sem,seval])
def cy(s_0:ak)(c_1:UInt8):Option (Bool×ak):=
 if(c_1.toNat:Int)!=13 then
  some (true,s_0)
 else
  ba (bq s_0) fun r1=>
  jn (
   if r1.2&&((r1.1.toNat:Int)==10)then
    some (ak.mk s_0.Builder s_0.b_ (ao (s_0.at_+1)) s_0.aB)
   else
    some s_0) fun(o3:ak)=>
  some (r1.2||o3.aB,o3)
def oK:IC:=
 (ag [cY 4 (.bool false)] [0,1]
 (.seq (ag [mv 7 1,bu 8 .neq 7 13] [0,8]
 (.cond (.t 8) (ag [cY 4 (.bool true)] [4]
 .ret)
 .skip))
 (ag [mv 10 0,c1 11 253 10,jJ 9 11,ex 12 9 0,ex 13 9 1,mv 5 12,mv 6 13] [0,5,6]
 (.join [(0,false),(6,false)] (ag [mv 14 6,mv 15 14,bK 16 5 15 true,b6 17 15 true (.bin .eql (.t 16) (.c (.int .u8 10))),pf 18 15 17] [0,6,18]
 (.cond (.t 18) (.bP none [mv 19 0,nc 20 19,fa 21 3 20,i1 22 (.bM vm false (.t 21)),bn 23 .add 22 1,nc 24 19,fa 25 3 24,st 1 25 23] [0,6])
 .skip))
 (ag [mv 26 6,mv 27 26,bK 28 0 27 false,b6 29 27 false (.nilCheck (.t 28)),fg 30 27 false 4 29,b6 31 27 false (.bM [.bool false] false (.t 30)),po 32 27 31,mv 4 32] [4]
 .ret)))))
theorem x9:aY prog 257 33 [⟨4,true,none⟩] oK=true:=by kernel_rfl
theorem o8{s_0 c_1}{B0:Nat}{s:ab}{Q:List AV->ab->Prop}(hB0:s B0=some (.cells [dA 251 B0 0 s_0.Builder,di s_0.Builder,sF 1 s_0.b_,.int .i64 s_0.at_,.bool s_0.aB])):ok (cy s_0 c_1) (fun r=>Q [.bool r.1] (s.set B0 (.cells [dA 251 B0 0 r.2.Builder,di r.2.Builder,sF 1 r.2.b_,.int .i64 r.2.at_,.bool r.2.aB])))->FN prog 257 [.ref B0 0,.int .u8 c_1.toNat] s Q:=by
 have hS:s=(s.set B0 (.cells [dA 251 B0 0 s_0.Builder,di s_0.Builder,sF 1 s_0.b_,.int .i64 s_0.at_,.bool s_0.aB])):=by simp only[eW hB0]
 rw[hS]
 intro h
 refine FO x9 rfl rfl ?_
 revert h
 rw[oK,cy]
 repeat'(first
  |(with_reducible first|exact dh|refine b9 ?_ ?_|refine dT ?_|refine ax (fun _(h:bq s_0=some _)=>dG (B0:=B0) (by simp -implicitDefEqProofs only[go_sem,seval]<;>simp only[bG]) h) (fun r1=>?_))
  |((with_reducible refine dI (fun(o3:ak)=>⟨[(0,.ref B0 0),(6,.bool r1.2)],[],(s.set B0 (.cells [dA 251 B0 0 o3.Builder,di o3.Builder,sF 1 o3.b_,.int .i64 o3.at_,.bool o3.aB]))⟩) (fun J=>?_) ?_);rotate_left;rintro o3)
  |simp -implicitDefEqProofs only[go_sem,seval])
def b5(s_0:ak):Option (Bool×ak):=
 ba (bq s_0) fun r1=>
 if !r1.2 then
  some (false,s_0)
 else
  ba (cG (aC.mk [110,114,116,98,102]) r1.1) fun r2=>
  if decide (r2>=0)then
   aH (0<=r2/\r2<(aC.mk [10,13,9,8,12]).b.length)<|
   ba (aw s_0.Builder (ix (aC.mk [10,13,9,8,12]).b r2)) fun r3=>
   some (true,(ak.mk r3.2 s_0.b_ (ao (s_0.at_+1)) s_0.aB))
  else
   if(decide ((r1.1.toNat:Int)>=48))&&(decide ((r1.1.toNat:Int)<=55))then
    ba (eS (ak.mk s_0.Builder s_0.b_ (ao (s_0.at_+1)) s_0.aB) r1.1) fun r4=>
    some (r4.1,r4.2)
   else
    if((r1.1.toNat:Int)==10)||((r1.1.toNat:Int)==13)then
     ba (cy (ak.mk s_0.Builder s_0.b_ (ao (s_0.at_+1)) s_0.aB) r1.1) fun r5=>
     some (r5.1,r5.2)
    else
     ba (aw s_0.Builder r1.1) fun r6=>
     some (true,(ak.mk r6.2 s_0.b_ (ao (s_0.at_+1)) s_0.aB))
def mJ:IC:=
 (ag [cY 2 (.bool false)] [0]
 (ag [mv 7 0,c1 8 253 7,jJ 6 8,ex 9 6 0,ex 10 6 1,mv 3 9,mv 4 10] [0,3,4]
 (.seq (ag [mv 11 4,no 12 11] [0,3,12]
 (.cond (.t 12) (ag [cY 2 (.bool false)] [2]
 .ret)
 .skip))
 (ag [mv 13 0,nc 14 13,fa 15 3 14,i1 16 (.bM vm false (.t 15)),bn 17 .add 16 1,nc 18 13,fa 19 3 18,st 1 19 17] [0,3]
 (.seq (ag [mv 20 3,i1 21 (.call 122 [(.c (.str [110,114,116,98,102])),(.t 20)]),mv 5 21] [0,3,5]
 (ag [mv 22 5,bn 23 .geq 22 0] [0,3,5,23]
 (.cond (.t 23) (.seq (.Az [] [(0,0,mv 24 0),(0,1,nc 25 24),(0,2,fa 26 0 25),(0,3,mv 27 5),(0,4,i1 28 (.de (.c (.str [10,13,9,8,12])) (.t 27))),(2,5,c2 29 259 26 28)] [])
 (ag [cY 2 (.bool true)] [2]
 .ret))
 .skip)))
 (.seq (.block 0 (ag [mv 31 3,bu 32 .geq 31 48,mv 33 32,bK 34 3 33 true,b6 35 33 true (.bin .leq (.t 34) (.c (.int .u8 55))),pf 36 33 35,mv 30 36] [0,3,30]
 (.cond (.t 30) (ag [mv 37 0,mv 38 3,c2 39 294 37 38,mv 2 39] [2]
 .ret)
 (ag [mv 41 3,bu 42 .eql 41 10,mv 43 42,bK 44 3 43 false,b6 45 43 false (.bin .eql (.t 44) (.c (.int .u8 13))),po 46 43 45,mv 40 46] [0,3,40]
 (.cond (.t 40) (ag [mv 47 0,mv 48 3,c2 49 257 47 48,mv 2 49] [2]
 .ret)
 .skip)))))
 (ag [mv 50 0,nc 51 50,fa 52 0 51,mv 53 3,c2 54 259 52 53] []
 (ag [cY 2 (.bool true)] [2]
 .ret))))))))
theorem u6:aY prog 256 55 [⟨2,true,none⟩] mJ=true:=by kernel_rfl
theorem vg{s_0}{B0:Nat}{s:ab}{Q:List AV->ab->Prop}(hB0:s B0=some (.cells [dA 251 B0 0 s_0.Builder,di s_0.Builder,sF 1 s_0.b_,.int .i64 s_0.at_,.bool s_0.aB])):ok (b5 s_0) (fun r=>Q [.bool r.1] (s.set B0 (.cells [dA 251 B0 0 r.2.Builder,di r.2.Builder,sF 1 r.2.b_,.int .i64 r.2.at_,.bool r.2.aB])))->FN prog 256 [.ref B0 0] s Q:=by
 have hS:s=(s.set B0 (.cells [dA 251 B0 0 s_0.Builder,di s_0.Builder,sF 1 s_0.b_,.int .i64 s_0.at_,.bool s_0.aB])):=by simp only[eW hB0]
 rw[hS]
 intro h
 refine FO u6 rfl rfl ?_
 revert h
 rw[mJ,b5]
 repeat'(first
  |(with_reducible first|exact dh|refine b9 ?_ ?_|refine dT ?_|refine ax (fun _(h:bq s_0=some _)=>dG (B0:=B0) (by simp -implicitDefEqProofs only[go_sem,seval]<;>simp only[bG]) h) (fun r1=>?_)|refine ax (fun _(h:cG (aC.mk [110,114,116,98,102]) r1.1=some _)=>lC h) (fun r2=>?_)|refine fun hh=>ib (by simp -implicitDefEqProofs only[go_sem,seval]) (bF (B0:=B0) (preB0:=[]) (postB0:=[sF 1 s_0.b_,.int .i64 (ao (s_0.at_+1)),.bool s_0.aB]) (TB0:=251) (by simp -implicitDefEqProofs only[go_sem,seval]<;>simp only[bG]) (by first|rfl|simp) iS (cu (show ok (aw s_0.Builder (ix (aC.mk [10,13,9,8,12]).b r2)) _ from hh) fun r3=>?_))|refine fun hh=>wT (B0:=B0) (by simp -implicitDefEqProofs only[go_sem,seval]<;>simp only[bG]) (cu (show ok (eS (ak.mk s_0.Builder s_0.b_ (ao (s_0.at_+1)) s_0.aB) r1.1) _ from hh) fun r4=>?_)|refine fun hh=>o8 (B0:=B0) (by simp -implicitDefEqProofs only[go_sem,seval]<;>simp only[bG]) (cu (show ok (cy (ak.mk s_0.Builder s_0.b_ (ao (s_0.at_+1)) s_0.aB) r1.1) _ from hh) fun r5=>?_)|refine fun hh=>ib (by simp -implicitDefEqProofs only[go_sem,seval]) (bF (B0:=B0) (preB0:=[]) (postB0:=[sF 1 s_0.b_,.int .i64 (ao (s_0.at_+1)),.bool s_0.aB]) (TB0:=251) (by simp -implicitDefEqProofs only[go_sem,seval]<;>simp only[bG]) (by first|rfl|simp) iS (cu (show ok (aw s_0.Builder r1.1) _ from hh) fun r6=>?_)))
  |simp -implicitDefEqProofs only[go_sem,seval])
def fE(s_0:ak):Option (aa×Int×ak):=
 iter (fun((zy,o2):Int×ak)=>
  ba (bq o2) fun r6=>
  if !r6.2 then
   ba (bZ o2) fun r7=>
   some (.inr ((aa.mk 0 0 (aC.mk []) ([]:List aa)),r7,o2))
  else
   oU (
    if(r6.1.toNat:Int)==92 then
     ba (b5 (ak.mk o2.Builder o2.b_ (ao (o2.at_+1)) o2.aB)) fun r18=>
     if !r18.1 then
      ba (bZ r18.2) fun r19=>
      some (.inr (.inr (r19,r18.2)))
     else
      some (.inr (.inl r18.2))
    else
     if(r6.1.toNat:Int)==13 then
      ba (cy (ak.mk o2.Builder o2.b_ (ao (o2.at_+1)) o2.aB) r6.1) fun r20=>
      if !r20.1 then
       ba (bZ r20.2) fun r21=>
       some (.inr (.inr (r21,r20.2)))
      else
       some (.inl (zy,10,r20.2))
     else
      if(r6.1.toNat:Int)==40 then
       some (.inl (ao (zy+1),r6.1,(ak.mk o2.Builder o2.b_ (ao (o2.at_+1)) o2.aB)))
      else
       if(r6.1.toNat:Int)==41 then
        some (.inl (ao (zy -1),r6.1,(ak.mk o2.Builder o2.b_ (ao (o2.at_+1)) o2.aB)))
       else
        some (.inl (zy,r6.1,(ak.mk o2.Builder o2.b_ (ao (o2.at_+1)) o2.aB)))) (fun((Io,c10,o11):Int×UInt8×ak)=>
    if Io==0 then
     ba (bw o11.Builder) fun r22=>
     some (.inr ((aa.mk 4 0 r22.1 ([]:List aa)),(0:Int),(ak.mk r22.2 o11.b_ o11.at_ o11.aB)))
    else
     ba (aw o11.Builder c10) fun r23=>
     some (.inl (Io,(ak.mk r23.2 o11.b_ o11.at_ o11.aB))))
   (jy (fun(o14:ak)=>some (.inl (zy,o14))) (fun((t16,o17):Int×ak)=>some (.inr ((aa.mk 0 0 (aC.mk []) ([]:List aa)),t16,o17))))) (1,s_0)
def oN:IC:=
 (ag [i1 2 (.aA dD),mi 3 0] [0,2]
 (.vu 0 [(0,false),(2,false),(4,false)] (.bP none [mi 4 1] [0,2,4])
 .skip
 .skip
 (ag [mv 8 0,c1 9 253 8,jJ 7 9,ex 10 7 0,ex 11 7 1,mv 5 10,mv 6 11] [0,2,4,5,6]
 (.seq (ag [mv 12 6,no 13 12] [0,2,4,5,13]
 (.cond (.t 13) (ag [i1 14 (.build dD []),mv 15 0,c1 16 254 15,st 4 2 14,mv 3 16] [2,3]
 .ret)
 .skip))
 (ag [mv 17 0,nc 18 17,fa 19 3 18,i1 20 (.bM vm false (.t 19)),bn 21 .add 20 1,nc 22 17,fa 23 3 22,st 1 23 21] [0,2,4,5]
 (.join [(0,false),(2,false),(4,false),(5,false)] (ag [mv 24 5] [0,2,4,5,24]
 (.block 0 (ag [bu 26 .eql 24 92,mv 25 26] [0,2,4,5,24,25]
 (.cond (.t 25) (.seq (ag [mv 27 0,c1 28 256 27,no 29 28] [0,2,4,29]
 (.cond (.t 29) (ag [i1 30 (.build dD []),mv 31 0,c1 32 254 31,st 4 2 30,mv 3 32] [2,3]
 .ret)
 .skip))
 (.goto 0))
 (ag [bu 34 .eql 24 13,mv 33 34] [0,2,4,5,24,33]
 (.cond (.t 33) (.seq (ag [mv 35 0,mv 36 5,c2 37 257 35 36,no 38 37] [0,2,4,38]
 (.cond (.t 38) (ag [i1 39 (.build dD []),mv 40 0,c1 41 254 40,st 4 2 39,mv 3 41] [2,3]
 .ret)
 .skip))
 (.bP none [cY 5 (.int .u8 10)] [0,2,4,5]))
 (ag [bu 43 .eql 24 40,mv 42 43] [0,2,4,5,24,42]
 (.cond (.t 42) (.bP none [mv 44 4,bn 45 .add 44 1,mv 4 45] [0,2,4,5])
 (ag [bu 47 .eql 24 41,mv 46 47] [0,2,4,5,46]
 (.cond (.t 46) (.bP none [mv 48 4,bn 49 .sub 48 1,mv 4 49] [0,2,4,5])
 .skip))))))))))
 (.seq (ag [mv 50 4,bn 51 .eql 50 0] [0,2,4,5,51]
 (.cond (.t 51) (ag [mv 52 0,nc 53 52,fa 54 0 53,c1 55 258 54,i1 56 (.build dD [(0,1,(.c (.int .i64 4))),(2,1,(.t 55))]),st 4 2 56,mi 3 0] [2,3]
 .ret)
 .skip))
 (ag [mv 57 0,nc 58 57,fa 59 0 58,mv 60 5,c2 61 259 59 60] [0,2,4]
 (.goto 0)))))))))
theorem yc:aY prog 219 62 [⟨2,false,some (4,true)⟩,⟨3,true,none⟩] oN=true:=by kernel_rfl
theorem ym{s_0}{B0:Nat}{s:ab}{Q:List AV->ab->Prop}(hB0:s B0=some (.cells [dA 251 B0 0 s_0.Builder,di s_0.Builder,sF 1 s_0.b_,.int .i64 s_0.at_,.bool s_0.aB])):ok (fE s_0) (fun r=>Q [.agg [.int .i64 r.1.Kind,.int .i64 r.1.N,.str r.1.S.b,sF 4 r.1.L],.int .i64 r.2.1] (s.set B0 (.cells [dA 251 B0 0 r.2.2.Builder,di r.2.2.Builder,sF 1 r.2.2.b_,.int .i64 r.2.2.at_,.bool r.2.2.aB])))->FN prog 219 [.ref B0 0] s Q:=by
 have hS:s=(s.set B0 (.cells [dA 251 B0 0 s_0.Builder,di s_0.Builder,sF 1 s_0.b_,.int .i64 s_0.at_,.bool s_0.aB])):=by simp only[eW hB0]
 rw[hS]
 intro h
 refine FO yc rfl rfl ?_
 revert h
 rw[oN,fE]
 repeat'(first
  |(with_reducible first|exact dh|refine b9 ?_ ?_|refine dT ?_|refine ax (fun _(h:bq o2=some _)=>dG (B0:=B0) (by simp -implicitDefEqProofs only[go_sem,seval]<;>simp only[bG]) h) (fun r6=>?_)|refine ax (fun _(h:bZ o2=some _)=>fT (B0:=B0) (by simp -implicitDefEqProofs only[go_sem,seval]<;>simp only[bG]) h) (fun r7=>?_)|refine fun hh=>vg (B0:=B0) (by simp -implicitDefEqProofs only[go_sem,seval]<;>simp only[bG]) (cu (show ok (b5 (ak.mk o2.Builder o2.b_ (ao (o2.at_+1)) o2.aB)) _ from hh) fun r18=>?_)|refine ax (fun _(h:bZ r18.2=some _)=>fT (B0:=B0) (by simp -implicitDefEqProofs only[go_sem,seval]<;>simp only[bG]) h) (fun r19=>?_)|refine fun hh=>o8 (B0:=B0) (by simp -implicitDefEqProofs only[go_sem,seval]<;>simp only[bG]) (cu (show ok (cy (ak.mk o2.Builder o2.b_ (ao (o2.at_+1)) o2.aB) r6.1) _ from hh) fun r20=>?_)|refine ax (fun _(h:bZ r20.2=some _)=>fT (B0:=B0) (by simp -implicitDefEqProofs only[go_sem,seval]<;>simp only[bG]) h) (fun r21=>?_)|refine fun hh=>ib (by simp -implicitDefEqProofs only[go_sem,seval]) (fe (B0:=B0) (preB0:=[]) (postB0:=[sF 1 o11.b_,.int .i64 o11.at_,.bool o11.aB]) (TB0:=251) (by simp -implicitDefEqProofs only[go_sem,seval]<;>simp only[bG]) (by first|rfl|simp) iS (cu (show ok (bw o11.Builder) _ from hh) fun r22=>?_))|refine fun hh=>ib (by simp -implicitDefEqProofs only[go_sem,seval]) (bF (B0:=B0) (preB0:=[]) (postB0:=[sF 1 o11.b_,.int .i64 o11.at_,.bool o11.aB]) (TB0:=251) (by simp -implicitDefEqProofs only[go_sem,seval]<;>simp only[bG]) (by first|rfl|simp) iS (cu (show ok (aw o11.Builder c10) _ from hh) fun r23=>?_)))
  |((with_reducible refine bV (fun((Io,c10,o11):Int×UInt8×ak)=>⟨[(0,.ref B0 0),(2,.loc [.int .i64 0,.int .i64 0,.str (aC.mk []).b,.sl true 4 0 []]),(4,.int .i64 Io),(5,.int .u8 c10.toNat)],[],(s.set B0 (.cells [dA 251 B0 0 o11.Builder,di o11.Builder,sF 1 o11.b_,.int .i64 o11.at_,.bool o11.aB]))⟩) (fun J=>?_) ?_);rotate_left;rintro⟨Io,c10,o11⟩)
  |((with_reducible refine L6 (fun((zy,o2):Int×ak)=>⟨[(0,.ref B0 0),(2,.loc [.int .i64 0,.int .i64 0,.str (aC.mk []).b,.sl true 4 0 []]),(4,.int .i64 zy)],[],(s.set B0 (.cells [dA 251 B0 0 o2.Builder,di o2.Builder,sF 1 o2.b_,.int .i64 o2.at_,.bool o2.aB]))⟩) ?_ ?_);(first|exact rfl|simp -implicitDefEqProofs only[go_sem,seval]);rintro J ⟨zy,o2⟩)
  |simp -implicitDefEqProofs only[go_sem,seval])
def ln(w_0:aC):Option (aa×Int):=
 oU (
  kU (
   iter (fun((tJ,i6):(List UInt8)×Int)=>
    if decide (i6<(w_0.b.length:Int))then
     aH (0<=i6/\i6<w_0.b.length)<|
     oU (
      if((ix w_0.b i6).toNat:Int)==35 then
       aH ((!(decide (ao (i6+2)>=(w_0.b.length:Int))))=true->0<=ao (i6+1)/\ao (i6+1)<w_0.b.length)<|
       ba (dQ (!(decide (ao (i6+2)>=(w_0.b.length:Int)))) 0 (gr (ix w_0.b (ao (i6+1))))) fun r18=>
       aH ((!((decide (ao (i6+2)>=(w_0.b.length:Int)))||(decide (r18<0))))=true->0<=ao (i6+2)/\ao (i6+2)<w_0.b.length)<|
       ba (dQ (!((decide (ao (i6+2)>=(w_0.b.length:Int)))||(decide (r18<0)))) 0 (gr (ix w_0.b (ao (i6+2))))) fun r19=>
       if((decide (ao (i6+2)>=(w_0.b.length:Int)))||(decide (r18<0)))||(decide (r19<0))then
        some (.inr (17:Int))
       else
        aH (0<=ao (i6+1)/\ao (i6+1)<w_0.b.length)<|
        ba (gr (ix w_0.b (ao (i6+1)))) fun r20=>
        aH (0<=ao (i6+2)/\ao (i6+2)<w_0.b.length)<|
        ba (gr (ix w_0.b (ao (i6+2)))) fun r21=>
        some (.inl (ao (i6+2),oq (ao ((ao (16*r20))+r21))))
      else
       some (.inl (i6,ix w_0.b i6))) (fun((i14,c15):Int×UInt8)=>
      aH ((tJ.length+[c15].length)*1<=room)<|
      some (.inl (tJ++[c15],ao (i14+1))))
     (fun(t17:Int)=>some (.inr (.inr t17)))
    else
     some (.inr (.inl tJ))) (([]:List UInt8),0)) (fun(Ww:(List UInt8))=>
   some (.inl Ww))
  (fun(t10:Int)=>some (.inr t10))) (fun(pW:(List UInt8))=>
  ba (dQ (!(decide ((pW.length:Int)>127))) 0 (dv pW 0)) fun r22=>
  if(decide ((pW.length:Int)>127))||(decide (r22>=0))then
   some ((aa.mk 0 0 (aC.mk []) ([]:List aa)),17)
  else
   some ((aa.mk 5 0 (aC.mk pW) ([]:List aa)),0))
 (fun(t4:Int)=>some ((aa.mk 0 0 (aC.mk []) ([]:List aa)),t4))
def zH:IC:=
 (ag [i1 2 (.aA dD),mi 3 0] [0,2]
 (ag [i1 4 (.iJ true (.c (.sl true 1 0 [])))] [0,2,4]
 (.join [(2,false),(4,false)] (ag [mi 5 0] [0,2,4,5]
 (.block 0 (.loop [(0,false),(2,false),(4,false),(5,false)] (.seq (ag [mv 7 5,mv 8 0,le 9 1 8,bt 10 .lss 7 9] [0,2,4,5,10]
 (.cond (.t 10) .skip
 (.exit 0)))
 (.seq (.block 1 (ag [mv 13 0,mv 14 5,i1 15 (.de (.t 13) (.t 14)),mv 6 15] [0,2,4,5,6]
 (.join [(0,false),(2,false),(4,false),(5,false),(6,false)] (ag [mv 16 6,bu 17 .eql 16 35] [0,2,4,5,6,17]
 (.cond (.t 17) (.seq (.seq (.bP (some 19) [mv 18 5,bn 19 .add 18 2,mv 20 0,le 21 1 20,bt 22 .geq 19 21,mv 23 22,bK 24 0 23 false,bK 25 5 23 false,im 26 23 false .add 25 1,b6 27 23 false (.de (.t 24) (.t 26)),Fm 28 23 false 260 27,im 29 23 false .lss 28 0,po 30 23 29,mv 31 30,bK 32 0 31 false,bK 33 5 31 false,im 34 31 false .add 33 2,b6 35 31 false (.de (.t 32) (.t 34)),Fm 36 31 false 260 35,im 37 31 false .lss 36 0,po 38 31 37] [0,2,4,5,38])
 (.cond (.t 38) (ag [i1 39 (.build dD []),st 4 2 39,mi 3 17] [2,3]
 .ret)
 .skip))
 (.seq (.bP (some 14) [mv 40 0,mv 41 5,bn 42 .add 41 1,i1 43 (.de (.t 40) (.t 42)),c1 44 260 43,i1 45 (.bin .mul (.c (.int .i64 16)) (.t 44)),mv 46 0,mv 47 5,bn 48 .add 47 2,i1 49 (.de (.t 46) (.t 48)),c1 50 260 49,bt 51 .add 45 50,i1 52 (.cC .u8 (.t 51)),mv 6 52] [0,2,4,5,6])
 (.bP none [mv 53 5,bn 54 .add 53 2,mv 5 54] [0,2,4,5,6])))
 .skip))
 (.bP none [mt 55 4,mv 56 6,i1 57 (.bB 1 1 [.int .u8 0] [(0,1,(.t 56))]),JA 58 1 1 55 57,mt 4 58] [0,2,4,5]))))
 (.bP none [mv 11 5,bn 12 .add 11 1,mv 5 12] [0,2,4,5]))))))
 (.seq (.seq (.bP (some 6) [mv 59 4,le 60 0 59,bn 61 .gtr 60 127,mv 62 61,bK 63 4 62 false,b6 64 62 false (.call 261 [(.t 63),(.c (.int .u8 0))]),im 65 62 false .geq 64 0,po 66 62 65] [2,4,66])
 (.cond (.t 66) (ag [i1 67 (.build dD []),st 4 2 67,mi 3 17] [2,3]
 .ret)
 .skip))
 (ag [mt 68 4,i1 69 (.eP (.t 68)),i1 70 (.build dD [(0,1,(.c (.int .i64 5))),(2,1,(.t 69))]),st 4 2 70,mi 3 0] [2,3]
 .ret)))))
theorem I5:aY prog 221 71 [⟨2,false,some (4,true)⟩,⟨3,true,none⟩] zH=true:=by kernel_rfl
theorem Jf{w_0}{s:ab}{Q:List AV->ab->Prop}:ok (ln w_0) (fun r=>Q [.agg [.int .i64 r.1.Kind,.int .i64 r.1.N,.str r.1.S.b,sF 4 r.1.L],.int .i64 r.2] s)->FN prog 221 [.str w_0.b] s Q:=by
 intro h
 refine FO I5 rfl rfl ?_
 revert h
 rw[zH,ln]
 repeat'(first
  |(with_reducible first|exact dh|refine b9 ?_ ?_|refine dT ?_)
  |((fail_if_success (have _x:=r18));with_reducible refine c8 rfl (fun _(h:gr (ix w_0.b (ao (i6+1)))=some _)=>mS h) (fun _=>rfl) (fun r18=>?_))
  |((fail_if_success (have _x:=r19));with_reducible refine c8 rfl (fun _(h:gr (ix w_0.b (ao (i6+2)))=some _)=>mS h) (fun _=>rfl) (fun r19=>?_))
  |((fail_if_success (have _x:=r20));with_reducible refine dF (fun _(h:gr (ix w_0.b (ao (i6+1)))=some _)=>mS h) (fun _=>rfl) (fun r20=>?_))
  |((fail_if_success (have _x:=r21));with_reducible refine dF (fun _(h:gr (ix w_0.b (ao (i6+2)))=some _)=>mS h) (fun _=>rfl) (fun r21=>?_))
  |with_reducible refine c8 rfl (fun _(h:dv pW 0=some _)=>(by refine FF ?_ (uI h);simp -implicitDefEqProofs only[go_sem,seval])) (fun _=>rfl) (fun r22=>?_)
  |((with_reducible refine bV (live:=[(0,false),(2,false),(4,false),(5,false),(6,false)]) (fun((i14,c15):Int×UInt8)=>⟨[(0,.str w_0.b),(2,.loc [.int .i64 0,.int .i64 0,.str (aC.mk []).b,.sl true 4 0 []]),(4,sT 1 tJ),(5,.int .i64 i14),(6,.int .u8 c15.toNat)],[],s⟩) (fun J=>?_) ?_);rotate_left;rintro⟨i14,c15⟩)
  |((with_reducible refine ch (fun((tJ,i6):(List UInt8)×Int)=>⟨[(0,.str w_0.b),(2,.loc [.int .i64 0,.int .i64 0,.str (aC.mk []).b,.sl true 4 0 []]),(4,sT 1 tJ),(5,.int .i64 i6)],[],s⟩) ?_ ?_);(first|exact rfl|simp -implicitDefEqProofs only[go_sem,seval]);rintro J ⟨tJ,i6⟩)
  |((with_reducible refine bV (live:=[(2,false),(4,false)]) (fun(pW:(List UInt8))=>⟨[(2,.loc [.int .i64 0,.int .i64 0,.str (aC.mk []).b,.sl true 4 0 []]),(4,sT 1 pW)],[],s⟩) (fun J=>?_) ?_);rotate_left;rintro pW)
  |simp -implicitDefEqProofs only[go_sem,seval])
theorem Je{w_0}{s:ab}{r:aa×Int}(h:ln w_0=some r):FE prog 221 [.str w_0.b] s [.agg [.int .i64 r.1.Kind,.int .i64 r.1.N,.str r.1.S.b,sF 4 r.1.L],.int .i64 r.2] s:=Jf ⟨r,h,rfl,rfl⟩
def fV(s_0:ak)(c_1:UInt8):Option (ar×Int×ak):=
 ba (dy c_1) fun r1=>
 if r1 then
  ba (dU s_0) fun r2=>
  some (r2.1,r2.2.1,r2.2.2)
 else
  if(c_1.toNat:Int)==91 then
   some ((ar.mk 2 0 0 (aa.mk 0 0 (aC.mk []) ([]:List aa)) (aC.mk [])),0,(ak.mk s_0.Builder s_0.b_ (ao (s_0.at_+1)) s_0.aB))
  else
   if(c_1.toNat:Int)==93 then
    some ((ar.mk 3 0 0 (aa.mk 0 0 (aC.mk []) ([]:List aa)) (aC.mk [])),0,(ak.mk s_0.Builder s_0.b_ (ao (s_0.at_+1)) s_0.aB))
   else
    if(c_1.toNat:Int)==60 then
     ba (fU (ak.mk s_0.Builder s_0.b_ (ao (s_0.at_+1)) s_0.aB)) fun r3=>
     some (r3.1,r3.2.1,r3.2.2)
    else
     if(c_1.toNat:Int)==62 then
      ba (fS (ak.mk s_0.Builder s_0.b_ (ao (s_0.at_+1)) s_0.aB)) fun r4=>
      some (r4.1,r4.2.1,r4.2.2)
     else
      if(c_1.toNat:Int)==40 then
       ba (fE (ak.mk s_0.Builder s_0.b_ (ao (s_0.at_+1)) s_0.aB)) fun r5=>
       some ((ar.mk 1 0 0 r5.1 (aC.mk [])),r5.2.1,r5.2.2)
      else
       if(c_1.toNat:Int)==47 then
        ba (eJ (ak.mk s_0.Builder s_0.b_ (ao (s_0.at_+1)) s_0.aB)) fun r6=>
        if !r6.2.1 then
         some ((ar.mk 0 0 0 (aa.mk 0 0 (aC.mk []) ([]:List aa)) (aC.mk [])),6,r6.2.2)
        else
         ba (ln r6.1) fun r7=>
         some ((ar.mk 1 0 0 r7.1 (aC.mk [])),r7.2,r6.2.2)
       else
        some ((ar.mk 0 0 0 (aa.mk 0 0 (aC.mk []) ([]:List aa)) (aC.mk [])),11,(ak.mk s_0.Builder s_0.b_ (ao (s_0.at_+1)) s_0.aB))
def ny:IC:=
 (ag [i1 4 (.aA jK),mi 5 0] [0,1,4]
 (.seq (ag [mv 12 1,c1 13 215 12] [0,1,4,13]
 (.cond (.t 13) (ag [mv 14 0,c1 15 216 14,ex 16 15 0,ex 17 15 1,st 8 4 16,mv 5 17] [4,5]
 .ret)
 .skip))
 (ag [mv 18 0,nc 19 18,fa 20 3 19,i1 21 (.bM vm false (.t 20)),bn 22 .add 21 1,nc 23 18,fa 24 3 23,st 1 24 22] [0,1,4]
 (.seq (ag [mv 25 1] [0,4,25]
 (.block 0 (ag [bu 27 .eql 25 91,mv 26 27] [0,4,25,26]
 (.cond (.t 26) (ag [i1 28 (.build jK [(0,1,(.c (.int .i64 2)))]),st 8 4 28,mi 5 0] [4,5]
 .ret)
 (ag [bu 30 .eql 25 93,mv 29 30] [0,4,25,29]
 (.cond (.t 29) (ag [i1 31 (.build jK [(0,1,(.c (.int .i64 3)))]),st 8 4 31,mi 5 0] [4,5]
 .ret)
 (ag [bu 33 .eql 25 60,mv 32 33] [0,4,25,32]
 (.cond (.t 32) (ag [mv 34 0,c1 35 217 34,ex 36 35 0,ex 37 35 1,st 8 4 36,mv 5 37] [4,5]
 .ret)
 (ag [bu 39 .eql 25 62,mv 38 39] [0,4,25,38]
 (.cond (.t 38) (ag [mv 40 0,c1 41 218 40,ex 42 41 0,ex 43 41 1,st 8 4 42,mv 5 43] [4,5]
 .ret)
 (ag [bu 45 .eql 25 40,mv 44 45] [0,4,25,44]
 (.cond (.t 44) (ag [mv 47 0,c1 48 219 47,jJ 46 48,ex 49 46 0,ex 50 46 1,i1 6 (.aA dD),st 4 6 49,mv 7 50] [4,6,7]
 (ag [lm 51 4 6,i1 52 (.build jK [(0,1,(.c (.int .i64 1))),(3,4,(.t 51))]),mv 53 7,st 8 4 52,mv 5 53] [4,5]
 .ret))
 (ag [bu 55 .eql 25 47,mv 54 55] [0,4,54]
 (.cond (.t 54) (ag [mv 57 0,c1 58 220 57,jJ 56 58,ex 59 56 0,ex 60 56 1,mv 8 59,mv 9 60] [4,8,9]
 (.seq (ag [mv 61 9,no 62 61] [4,8,62]
 (.cond (.t 62) (ag [i1 63 (.build jK []),st 8 4 63,mi 5 6] [4,5]
 .ret)
 .skip))
 (ag [mv 65 8,c1 66 221 65,jJ 64 66,ex 67 64 0,ex 68 64 1,i1 10 (.aA dD),st 4 10 67,mv 11 68] [4,10,11]
 (ag [lm 69 4 10,i1 70 (.build jK [(0,1,(.c (.int .i64 1))),(3,4,(.t 69))]),mv 71 11,st 8 4 70,mv 5 71] [4,5]
 .ret))))
 .skip))))))))))))))
 (ag [i1 72 (.build jK []),st 8 4 72,mi 5 11] [4,5]
 .ret)))))
theorem wP:aY prog 180 73 [⟨4,false,some (8,true)⟩,⟨5,true,none⟩] ny=true:=by kernel_rfl
theorem wU{s_0 c_1}{B0:Nat}{s:ab}{Q:List AV->ab->Prop}(hB0:s B0=some (.cells [dA 251 B0 0 s_0.Builder,di s_0.Builder,sF 1 s_0.b_,.int .i64 s_0.at_,.bool s_0.aB])):ok (fV s_0 c_1) (fun r=>Q [.agg [.int .i64 r.1.Kind,.int .i64 r.1.bA,.int .i64 r.1.To,.int .i64 r.1.V.Kind,.int .i64 r.1.V.N,.str r.1.V.S.b,sF 4 r.1.V.L,.str r.1.S.b],.int .i64 r.2.1] (s.set B0 (.cells [dA 251 B0 0 r.2.2.Builder,di r.2.2.Builder,sF 1 r.2.2.b_,.int .i64 r.2.2.at_,.bool r.2.2.aB])))->FN prog 180 [.ref B0 0,.int .u8 c_1.toNat] s Q:=by
 have hS:s=(s.set B0 (.cells [dA 251 B0 0 s_0.Builder,di s_0.Builder,sF 1 s_0.b_,.int .i64 s_0.at_,.bool s_0.aB])):=by simp only[eW hB0]
 rw[hS]
 intro h
 refine FO wP rfl rfl ?_
 revert h
 rw[ny,fV]
 repeat'(first
  |(with_reducible first|exact dh|refine b9 ?_ ?_|refine dT ?_|refine ax (fun _(h:dy c_1=some _)=>rZ h) (fun r1=>?_)|refine fun hh=>sa (B0:=B0) (by simp -implicitDefEqProofs only[go_sem,seval]<;>simp only[bG]) (cu (show ok (dU s_0) _ from hh) fun r2=>?_)|refine fun hh=>tI (B0:=B0) (by simp -implicitDefEqProofs only[go_sem,seval]<;>simp only[bG]) (cu (show ok (fU (ak.mk s_0.Builder s_0.b_ (ao (s_0.at_+1)) s_0.aB)) _ from hh) fun r3=>?_)|refine fun hh=>tH (B0:=B0) (by simp -implicitDefEqProofs only[go_sem,seval]<;>simp only[bG]) (cu (show ok (fS (ak.mk s_0.Builder s_0.b_ (ao (s_0.at_+1)) s_0.aB)) _ from hh) fun r4=>?_)|refine fun hh=>ym (B0:=B0) (by simp -implicitDefEqProofs only[go_sem,seval]<;>simp only[bG]) (cu (show ok (fE (ak.mk s_0.Builder s_0.b_ (ao (s_0.at_+1)) s_0.aB)) _ from hh) fun r5=>?_)|refine fun hh=>pa (B0:=B0) (by simp -implicitDefEqProofs only[go_sem,seval]<;>simp only[bG]) (cu (show ok (eJ (ak.mk s_0.Builder s_0.b_ (ao (s_0.at_+1)) s_0.aB)) _ from hh) fun r6=>?_)|refine ax (fun _(h:ln r6.1=some _)=>Je h) (fun r7=>?_))
  |simp -implicitDefEqProofs only[go_sem,seval])
def dp(b_0:(List UInt8))(ay:Int)(aj:Bool):Option (ar×Int):=
 if(decide (ay<0))||(decide (ay>(b_0.length:Int)))then
  some ((ar.mk 0 0 0 (aa.mk 0 0 (aC.mk []) ([]:List aa)) (aC.mk [])),2)
 else
  ba (mR b_0 ay) fun r1=>
  if r1==(b_0.length:Int)then
   if aj then
    some ((ar.mk 0 r1 r1 (aa.mk 0 0 (aC.mk []) ([]:List aa)) (aC.mk [])),0)
   else
    some ((ar.mk 0 r1 r1 (aa.mk 0 0 (aC.mk []) ([]:List aa)) (aC.mk [])),6)
  else
   aH (0<=r1/\r1<b_0.length)<|
   ba (fV (ak.mk zo.zero b_0 r1 aj) (ix b_0 r1)) fun r2=>
   if r2.2.1 !=0 then
    some ((ar.mk 0 r1 r1 (aa.mk 0 0 (aC.mk []) ([]:List aa)) (aC.mk [])),r2.2.1)
   else
    some ((ar.mk r2.1.Kind r1 r2.2.2.at_ r2.1.V r2.1.S),0)
def zF:IC:=
 (ag [i1 6 (.aA jK),mi 7 0] [0,1,2,6]
 (.seq (ag [mv 12 1,bn 13 .lss 12 0,mv 14 13,bK 15 1 14 false,bK 16 0 14 false,b6 17 14 false (.len 0 (.t 16)),sm 18 14 false .gtr 15 17,po 19 14 18] [0,1,2,6,19]
 (.cond (.t 19) (ag [i1 20 (.build jK []),st 8 6 20,mi 7 2] [6,7]
 .ret)
 .skip))
 (ag [mv 21 0,mv 22 1,c2 23 179 21 22,mv 8 23] [0,2,6,8]
 (.seq (ag [mv 24 8,mv 25 0,le 26 0 25,bt 27 .eql 24 26] [0,2,6,8,27]
 (.cond (.t 27) (.seq (ag [mv 28 2] [6,8,28]
 (.cond (.t 28) (ag [mv 29 8,mv 30 8,i1 31 (.build jK [(1,1,(.t 29)),(2,1,(.t 30))]),st 8 6 31,mi 7 0] [6,7]
 .ret)
 .skip))
 (ag [mv 32 8,mv 33 8,i1 34 (.build jK [(1,1,(.t 32)),(2,1,(.t 33))]),st 8 6 34,mi 7 6] [6,7]
 .ret))
 .skip))
 (ag [mv 35 0,mv 36 8,mv 37 2,i1 38 (.build [.cZ,.bb 5 0 [],.sl true 1 0 [],.int .i64 0,.bool false] [(2,1,(.t 35)),(3,1,(.t 36)),(4,1,(.t 37))]),i1 39 (.FR 5 251 0 5 (.t 38)),mv 9 39] [0,6,8,9]
 (ag [mv 41 9,mt 42 0,mv 43 8,ia 44 [.int .u8 0] 42 43,ld 45 1 44,c2 46 180 41 45,jJ 40 46,ex 47 40 0,ex 48 40 1,i1 10 (.aA jK),st 8 10 47,mv 11 48] [6,8,9,10,11]
 (.seq (ag [mv 49 11,bn 50 .neq 49 0] [6,8,9,10,11,50]
 (.cond (.t 50) (ag [mv 51 8,mv 52 8,i1 53 (.build jK [(1,1,(.t 51)),(2,1,(.t 52))]),mv 54 11,st 8 6 53,mv 7 54] [6,7]
 .ret)
 .skip))
 (.seq (.Nx [[false,false,false,false,false,false,false,false,false],[false,false,false,false,false,false,false,false,false],[false,true,false,false,false,false,false,false,false],[false,false,true,false,false,false,false,false,false],[false,false,false,true,false,false,false,false,false],[true,false,false,false,false,false,false,false,false],[true,false,false,false,false,true,false,false,false],[true,true,true,true,true,true,true,false,false],[true,true,true,true,true,true,true,true,false]] [mv 55 8,mv 56 9,nc 57 56,fa 58 3 57,i1 59 (.bM vm false (.t 58)),fa 60 1 10,st 1 60 55,fa 61 2 10,st 1 61 59] [6,10])
 (ag [lm 62 8 10,st 8 6 62,mi 7 0] [6,7]
 .ret)))))))))
theorem I3:aY prog 127 63 [⟨6,false,some (8,true)⟩,⟨7,true,none⟩] zF=true:=by kernel_rfl
set_option maxHeartbeats 8000000 in
theorem Jb{b_0 ay aj}{s:ab}{Q:List AV->ab->Prop}:ok (dp b_0 ay aj) (fun r=>Q [.agg [.int .i64 r.1.Kind,.int .i64 r.1.bA,.int .i64 r.1.To,.int .i64 r.1.V.Kind,.int .i64 r.1.V.N,.str r.1.V.S.b,sF 4 r.1.V.L,.str r.1.S.b],.int .i64 r.2] s)->FN prog 127 [sF 1 b_0,.int .i64 ay,.bool aj] s Q:=by
 intro h
 refine FN.forget ?_
 refine FO I3 rfl rfl ?_
 revert h
 rw[zF,dp]
 repeat'(first
  |(with_reducible first|exact dh|refine b9 ?_ ?_|refine dT ?_)
  |((with_reducible apply aez);(·intro Q' hQ;repeat'(first|exact hQ|(simp only[dB,cV,cg,cU,xC,zn,Bool.not_true,Bool.not_false,Bool.or_true,Bool.true_or,Bool.false_or,Bool.or_false,Bool.and_true,Bool.true_and,Bool.and_false,Bool.false_and,cond_true,cond_false,true_and,and_true];done)|with_reducible refine⟨?_,?_⟩|with_reducible exact trivial|simp only[dB,cV,cg,cU,xC,zn,Bool.not_true,Bool.not_false,Bool.or_true,Bool.true_or,Bool.false_or,Bool.or_false,Bool.and_true,Bool.true_and,Bool.and_false,Bool.false_and,cond_true,cond_false,true_and,and_true]|simp -implicitDefEqProofs only[go_sem,seval])))
  |(with_reducible first|refine ax (fun _(h:mR b_0 ay=some _)=>Jc h) (fun r1=>?_)|refine fun hh=>wU (B0:=N1) (by simp -implicitDefEqProofs only[go_sem,seval]<;>simp only[bG]) (cu (show ok (fV (ak.mk zo.zero b_0 r1 aj) (ix b_0 r1)) _ from hh) fun r2=>?_))
  |((fail_if_success (have _x:=sN1));with_reducible intro hh N1 hN1;(try simp only[eU]at hN1);have sN1:=hN1;revert hh)
  |(with_reducible first|exact fun hh=>⟨_,qD.set (qD.refl _) (by simp[ab.set,sN1]),hh⟩|exact fun hh=>⟨_,qD.refl _,hh⟩)
  |simp -implicitDefEqProofs only[go_sem,seval])
theorem ll{b_0 ay aj}{s:ab}{r:ar×Int}(h:dp b_0 ay aj=some r):FE prog 127 [sF 1 b_0,.int .i64 ay,.bool aj] s [.agg [.int .i64 r.1.Kind,.int .i64 r.1.bA,.int .i64 r.1.To,.int .i64 r.1.V.Kind,.int .i64 r.1.V.N,.str r.1.V.S.b,sF 4 r.1.V.L,.str r.1.S.b],.int .i64 r.2] s:=Jb ⟨r,h,rfl,rfl⟩
@[go_sem]abbrev oV(v:aa):AV:=.agg [.int .i64 v.Kind,.int .i64 v.N,.str v.S.b,sF 4 v.L]
end Go.AB
end
