/- A part of the proof: Lx. -/
import Derived.Test.YtkeagffgdajggaaGreatSo14
set_option linter.unusedSimpArgs false
set_option linter.unusedVariables false
section
set_option maxRecDepth 4000
namespace Go.AB
open Go
structure aa where
 Kind:Int
 N:Int
 S:aL
 L:(List aa)
mutual
def gz:aa→List AV
 |⟨k,n,s,l⟩=>[.int .i64 k,.int .i64 n,.str s.b,.sl false 4 l.length (mB l)]
def mB:List aa→List AV
 |[]=>[]
 |v::l=>gz v++mB l
end
theorem Eu(x:aa):views (gz x)=gz x:=by cases x;simp[gz,views,view]
theorem Et(x:aa):(gz x).length=4:=by cases x;simp[gz]
instance:a8 aa:=⟨4,gz,⟨0,0,⟨[]⟩,[]⟩,by decide,Et,Eu⟩
theorem qk:∀l:List aa,mB l=flat l
 |[]=>by rw[mB];rfl
 |v::l=>by rw[mB,qk l];rfl
@[go_sem]theorem lA(x:aa):a8.cells x=[.int .i64 x.Kind,.int .i64 x.N,.str x.S.b,.sl false 4 x.L.length (flat x.L)]:=by
  cases x
  show gz _=_
  rw[gz,qk]
@[go_sem]theorem C5(l:List aa)(i:Int):pad [.int .i64 0,.int .i64 0,.str [],.sl false 4 0 []] (views (AB.sub (flat l) (i.toNat*4) 4))=[.int .i64 ((ix l i).Kind),.int .i64 ((ix l i).N),.str ((ix l i).S).b,.sl false 4 ((ix l i).L).length (flat ((ix l i).L))]:=by rw[←lA];exact vQ _ 4 l i (by rw[lA];rfl) rfl
attribute[-go_sem] dv eu cV du
theorem ZD{P:Program}{X:Prop}{deps:List (List Bool)}{ops f:List aq}{live:List Nat}{Q:Exit→St→Prop}{d:List Bool}{σ φ:St}
 (h1:∀Q':St→Prop,Q' φ→LP P deps ops (fun τ=>Q' (τ.vb live)) f d σ)(h2:X→Q .normal φ):X→LP P deps ops (sw live Q) f d σ:=fun x=>h1 (fun τ=>Q .normal τ) (h2 x)
@[go_sem]theorem ZJ:Nat.ble 1 1=true:=rfl
@[go_sem]theorem We{α:Type}[a8 α](l:List α)(i:Int):ix l ((i.toNat:Nat):Int)=ix l i:=rfl
@[go_sem]theorem UM(l:List Int)(n:Nat):pad [.int .i64 0] (views (AB.sub (flat l) (n*1) 1))=[.int .i64 (ix l (n:Int))]:=PI l n
theorem dw{P:Program}{f:FuncId}{as1 as2:List AV}{s:ab}{Q:List AV→ab→Prop}(e:as1=as2)(h:FN P f as1 s Q):FN P f as2 s Q:=e▸h
theorem aV{c p:Bool}{A:Prop}(h:p=true→A):(c&&p)=true→A:=fun hh=>h (by cases c<;>simp_all)
theorem dF:G8 Go.Proofs.Tryz.prog 251 5 0 249=true:=by kernel_rfl
structure aF where
 Kind:Int
 bP:Int
 To:Int
 V:aa
 S:aL
instance:a8 aF:=⟨8,fun x=>[.int .i64 x.Kind,.int .i64 x.bP,.int .i64 x.To,.int .i64 x.V.Kind,.int .i64 x.V.N,.str x.V.S.b,.sl false 4 x.V.L.length (flat x.V.L),.str x.S.b],(aF.mk 0 0 0 (aa.mk 0 0 (aL.mk []) []) (aL.mk [])),by decide,fun _=>rfl,fun _=>rfl⟩
def cS(c_0:UInt8):Option (Bool):=some (((((((c_0.toNat:Int)==0)||((c_0.toNat:Int)==9))||((c_0.toNat:Int)==10))||((c_0.toNat:Int)==12))||((c_0.toNat:Int)==13))||((c_0.toNat:Int)==32))
def wc:IC:=
 (aj [dT 2 (.bool false)] [0]
 (aj [mv 3 0,bu 4 .eql 3 0,mv 5 4,b6 6 0 5 false,cQ 7 5 false (.bin .eql (.t 6) (.c (.int .u8 9))),po 8 5 7,mv 9 8,b6 10 0 9 false,cQ 11 9 false (.bin .eql (.t 10) (.c (.int .u8 10))),po 12 9 11,mv 13 12,b6 14 0 13 false,cQ 15 13 false (.bin .eql (.t 14) (.c (.int .u8 12))),po 16 13 15,mv 17 16,b6 18 0 17 false,cQ 19 17 false (.bin .eql (.t 18) (.c (.int .u8 13))),po 20 17 19,mv 21 20,b6 22 0 21 false,cQ 23 21 false (.bin .eql (.t 22) (.c (.int .u8 32))),po 24 21 23,mv 2 24] [2]
 .ret))
def uv:List bj:=[⟨2,true,none⟩]
theorem EZ:bG Go.Proofs.Tryz.prog 67 25 uv wc=true:=by kernel_rfl
theorem Fb{c_0}{s:ab}{Q:List AV→ab→Prop}:ok (cS c_0) (fun r=>Q [.bool r] s)→FN Go.Proofs.Tryz.prog 67 [.int .u8 c_0.toNat] s Q:=by
 intro h
 refine FN.of (ay mix) EZ rfl (Nat.le_of_ble_eq_true rfl) ?_
 revert h
 rw[wc,uv,cS]
 repeat'(first
  |with_reducible exact bI
  |with_reducible refine aU ?_ ?_
  |with_reducible exact aV
  |with_reducible refine bN ?_
  |simp -implicitDefEqProofs only[go_sem,seval])
theorem cK{c_0}{s:ab}{r:Bool}(h:cS c_0=some r):FE Go.Proofs.Tryz.prog 67 [.int .u8 c_0.toNat] s [.bool r] s:=Fb ⟨r,h,rfl,rfl⟩
def iS(b_0:(List UInt8))(at_1:Int):Option (Int):=
 if decide (at_1<0)then
  some 0
 else
  xR (
   oD (
    iter (fun((at3,comment4):Int×Bool)=>
     if decide (at3<(b_0.length:Int))then
      xR (
       bq (0≤at3∧at3<b_0.length)<|
       if comment4 then
        some (.inl ((((ix b_0 at3).toNat:Int)!=10)&&(((ix b_0 at3).toNat:Int)!=13)))
       else
        if((ix b_0 at3).toNat:Int)==37 then
         some (.inl true)
        else
         cj (cS (ix b_0 at3)) fun r11=>
         if !r11 then
          some (.inr at3)
         else
          some (.inl comment4)) (fun(comment9:Bool)=>
       some (.inl (az (at3+1),comment9)))
      (fun(t10:Int)=>some (.inr (.inr t10)))
     else
      some (.inr (.inl ()))) (at_1,false)) (fun(_:Unit)=>
    some (.inl ()))
   (fun(t6:Int)=>some (.inr t6))) (fun(_:Unit)=>
   some (b_0.length:Int))
  (fun(t2:Int)=>some t2)
def yH:IC:=
 (aj [mi 4 0] [0,1]
 (.seq (aj [mv 7 1,bn 8 .lss 7 0] [0,1,8]
 (.cond (.t 8) (aj [mi 4 0] [4]
 .ret)
 .skip))
 (aj [dT 5 (.bool false)] [0,1,5]
 (.join [(0,true)] (.block 0 (.loop [(0,true),(1,false),(5,false)] (.seq (aj [mv 9 1,mv 10 0,le 11 0 10,bt 12 .lss 9 11] [0,1,5,12]
 (.cond (.t 12) .skip
 (.exit 0)))
 (.join [(0,true),(1,false),(5,false)] (.block 1 (aj [mv 15 0,mv 16 1,ia 17 [.int .u8 0] 15 16,ld 18 1 17,mv 6 18] [0,1,5,6]
 (.block 2 (aj [mv 20 5,mv 19 20] [0,1,5,6,19]
 (.cond (.t 19) (.cU none [mv 21 6,bu 22 .neq 21 10,mv 23 22,b6 24 6 23 true,cQ 25 23 true (.bin .neq (.t 24) (.c (.int .u8 13))),pf 26 23 25,mv 5 26] [0,1,5])
 (aj [mv 28 6,bu 29 .eql 28 37,mv 27 29] [0,1,5,6,27]
 (.cond (.t 27) (.cU none [dT 5 (.bool true)] [0,1,5])
 (aj [mv 31 6,c1 32 67 31,no 33 32,mv 30 33] [0,1,5,30]
 (.cond (.t 30) (aj [mv 34 1,mv 4 34] [4]
 .ret)
 .skip)))))))))
 (.cU none [mv 13 1,bn 14 .add 13 1,mv 1 14] [0,1,5])))))
 (aj [mt 35 0,le 36 0 35,mv 4 36] [4]
 .ret)))))
def wZ:List bj:=[⟨4,true,none⟩]
theorem GR:bG Go.Proofs.Tryz.prog 179 37 wZ yH=true:=by kernel_rfl
theorem G6{b_0 at_1}{s:ab}{Q:List AV→ab→Prop}:ok (iS b_0 at_1) (fun r=>Q [.int .i64 r] s)→FN Go.Proofs.Tryz.prog 179 [.sl false 1 b_0.length (flat b_0),.int .i64 at_1] s Q:=by
 intro h
 refine FN.of (ay mix) GR rfl (Nat.le_of_ble_eq_true rfl) ?_
 revert h
 rw[yH,wZ,iS]
 repeat'(first
  |with_reducible exact bI
  |with_reducible refine aU ?_ ?_
  |with_reducible exact aV
  |with_reducible refine bN ?_
  |with_reducible refine ak (fun _(h:cS (ix b_0 at3)=some _)=>cK h) (fun r11=>?_)
  |with_reducible refine ae (fun _(h:cS (ix b_0 at3)=some _)=>cK h) (fun _=>rfl) (fun r11=>?_)
  |with_reducible refine ak (fun _(h:cS (ix b_0 at3)=some _)=>(by refine al ?_ (cK h);simp -implicitDefEqProofs only[go_sem,seval])) (fun r11=>?_)
  |with_reducible refine ae (fun _(h:cS (ix b_0 at3)=some _)=>(by refine al ?_ (cK h);simp -implicitDefEqProofs only[go_sem,seval])) (fun _=>rfl) (fun r11=>?_)
  |((with_reducible refine dh (live:=[(0,true),(1,false),(5,false)]) (fun(comment9:Bool)=>⟨[(0,.sl false 1 b_0.length (flat b_0)),(1,.int .i64 at3),(5,.bool comment9)],[],s⟩) (fun J=>?_) ?_);rotate_left;rintro comment9)
  |((with_reducible refine dp (fun((at3,comment4):Int×Bool)=>⟨[(0,.sl false 1 b_0.length (flat b_0)),(1,.int .i64 at3),(5,.bool comment4)],[],s⟩) ?_ ?_);(first|exact rfl|simp -implicitDefEqProofs only[go_sem,seval]);rintro J ⟨at3,comment4⟩)
  |((with_reducible refine dh (live:=[(0,true)]) (fun(_:Unit)=>⟨[(0,.sl false 1 b_0.length (flat b_0))],[],s⟩) (fun J=>?_) ?_);rotate_left;rintro _)
  |simp -implicitDefEqProofs only[go_sem,seval])
theorem nx{b_0 at_1}{s:ab}{r:Int}(h:iS b_0 at_1=some r):FE Go.Proofs.Tryz.prog 179 [.sl false 1 b_0.length (flat b_0),.int .i64 at_1] s [.int .i64 r] s:=G6 ⟨r,h,rfl,rfl⟩
structure ao where
 Builder:xl
 b_:(List UInt8)
 at_:Int
 aE:Bool
def bC(s_0:aL)(c_1:UInt8):Option (Int):=
 cj (cw s_0 c_1) fun r1=>
 some r1
def kX:IC:=
 (aj [mi 4 0] [0,1]
 (aj [mv 5 0,mv 6 1,c2 7 178 5 6,mv 4 7] [4]
 .ret))
def kl:List bj:=[⟨4,true,none⟩]
theorem se:bG Go.Proofs.Tryz.prog 122 8 kl kX=true:=by kernel_rfl
theorem sS{s_0 c_1}{s:ab}{Q:List AV→ab→Prop}:ok (bC s_0 c_1) (fun r=>Q [.int .i64 r] s)→FN Go.Proofs.Tryz.prog 122 [.str s_0.b,.int .u8 c_1.toNat] s Q:=by
 intro h
 refine FN.of (ay mix) se rfl (Nat.le_of_ble_eq_true rfl) ?_
 revert h
 rw[kX,kl,bC]
 repeat'(first
  |with_reducible exact bI
  |with_reducible refine aU ?_ ?_
  |with_reducible exact aV
  |with_reducible refine bN ?_
  |with_reducible refine ak (fun _(h:cw s_0 c_1=some _)=>er h) (fun r1=>?_)
  |with_reducible refine ae (fun _(h:cw s_0 c_1=some _)=>er h) (fun _=>rfl) (fun r1=>?_)
  |with_reducible refine ak (fun _(h:cw s_0 c_1=some _)=>(by refine al ?_ (er h);simp -implicitDefEqProofs only[go_sem,seval])) (fun r1=>?_)
  |with_reducible refine ae (fun _(h:cw s_0 c_1=some _)=>(by refine al ?_ (er h);simp -implicitDefEqProofs only[go_sem,seval])) (fun _=>rfl) (fun r1=>?_)
  |simp -implicitDefEqProofs only[go_sem,seval])
theorem cH{s_0 c_1}{s:ab}{r:Int}(h:bC s_0 c_1=some r):FE Go.Proofs.Tryz.prog 122 [.str s_0.b,.int .u8 c_1.toNat] s [.int .i64 r] s:=sS ⟨r,h,rfl,rfl⟩
def iq(c_0:UInt8):Option (Bool):=
 cj (bC (aL.mk [40,41,60,62,91,93,123,125,47,37]) c_0) fun r1=>
 some (decide (r1≥0))
def v7:IC:=
 (aj [dT 2 (.bool false)] [0]
 (aj [mv 3 0,i1 4 (.call 122 [(.c (.str [40,41,60,62,91,93,123,125,47,37])),(.t 3)]),bn 5 .geq 4 0,mv 2 5] [2]
 .ret))
def ur:List bj:=[⟨2,true,none⟩]
theorem EY:bG Go.Proofs.Tryz.prog 68 6 ur v7=true:=by kernel_rfl
theorem Fa{c_0}{s:ab}{Q:List AV→ab→Prop}:ok (iq c_0) (fun r=>Q [.bool r] s)→FN Go.Proofs.Tryz.prog 68 [.int .u8 c_0.toNat] s Q:=by
 intro h
 refine FN.of (ay mix) EY rfl (Nat.le_of_ble_eq_true rfl) ?_
 revert h
 rw[v7,ur,iq]
 repeat'(first
  |with_reducible exact bI
  |with_reducible refine aU ?_ ?_
  |with_reducible exact aV
  |with_reducible refine bN ?_
  |with_reducible refine ak (fun _(h:bC (aL.mk [40,41,60,62,91,93,123,125,47,37]) c_0=some _)=>cH h) (fun r1=>?_)
  |with_reducible refine ae (fun _(h:bC (aL.mk [40,41,60,62,91,93,123,125,47,37]) c_0=some _)=>cH h) (fun _=>rfl) (fun r1=>?_)
  |with_reducible refine ak (fun _(h:bC (aL.mk [40,41,60,62,91,93,123,125,47,37]) c_0=some _)=>(by refine al ?_ (cH h);simp -implicitDefEqProofs only[go_sem,seval])) (fun r1=>?_)
  |with_reducible refine ae (fun _(h:bC (aL.mk [40,41,60,62,91,93,123,125,47,37]) c_0=some _)=>(by refine al ?_ (cH h);simp -implicitDefEqProofs only[go_sem,seval])) (fun _=>rfl) (fun r1=>?_)
  |simp -implicitDefEqProofs only[go_sem,seval])
theorem l8{c_0}{s:ab}{r:Bool}(h:iq c_0=some r):FE Go.Proofs.Tryz.prog 68 [.int .u8 c_0.toNat] s [.bool r] s:=Fa ⟨r,h,rfl,rfl⟩
def cW(c_0:UInt8):Option (Bool):=
 cj (cS c_0) fun r1=>
 cj (fy (!r1) false (iq c_0)) fun r2=>
 some ((!r1)&&(!r2))
def rL:IC:=
 (aj [dT 2 (.bool false)] [0]
 (.seq (.cU (some 6) [mv 3 0,c1 4 67 3,no 5 4,mv 6 5,b6 7 0 6 true,FC 8 6 true 68 7,cQ 9 6 true (.un .not (.t 8)),pf 10 6 9,mv 2 10] [2])
 .ret))
def qG:List bj:=[⟨2,true,none⟩]
theorem Bf:bG Go.Proofs.Tryz.prog 215 11 qG rL=true:=by kernel_rfl
theorem Bt{c_0}{s:ab}{Q:List AV→ab→Prop}:ok (cW c_0) (fun r=>Q [.bool r] s)→FN Go.Proofs.Tryz.prog 215 [.int .u8 c_0.toNat] s Q:=by
 intro h
 refine FN.of (ay mix) Bf rfl (Nat.le_of_ble_eq_true rfl) ?_
 revert h
 rw[rL,qG,cW]
 repeat'(first
  |with_reducible exact bI
  |with_reducible refine aU ?_ ?_
  |with_reducible exact aV
  |with_reducible refine bN ?_
  |with_reducible refine ak (fun _(h:cS c_0=some _)=>cK h) (fun r1=>?_)
  |with_reducible refine ae (fun _(h:cS c_0=some _)=>cK h) (fun _=>rfl) (fun r1=>?_)
  |with_reducible refine ak (fun _(h:cS c_0=some _)=>(by refine al ?_ (cK h);simp -implicitDefEqProofs only[go_sem,seval])) (fun r1=>?_)
  |with_reducible refine ae (fun _(h:cS c_0=some _)=>(by refine al ?_ (cK h);simp -implicitDefEqProofs only[go_sem,seval])) (fun _=>rfl) (fun r1=>?_)
  |with_reducible refine bM rfl (fun _(h:iq c_0=some _)=>l8 h) (fun _=>rfl) (fun r2=>?_)
  |with_reducible refine bM rfl (fun _(h:iq c_0=some _)=>(by refine al ?_ (l8 h);simp -implicitDefEqProofs only[go_sem,seval])) (fun _=>rfl) (fun r2=>?_)
  |simp -implicitDefEqProofs only[go_sem,seval])
theorem gp{c_0}{s:ab}{r:Bool}(h:cW c_0=some r):FE Go.Proofs.Tryz.prog 215 [.int .u8 c_0.toNat] s [.bool r] s:=Bt ⟨r,h,rfl,rfl⟩
def dK(s_0:ao):Option (aL×Bool×ao):=
 jn (
  iter (fun(o3:ao)=>
   bq ((decide (o3.at_<(o3.b_.length:Int)))=true→0≤o3.at_∧o3.at_<o3.b_.length)<|
   cj (fy (decide (o3.at_<(o3.b_.length:Int))) false (cW (ix o3.b_ o3.at_))) fun r6=>
   if(decide (o3.at_<(o3.b_.length:Int)))&&r6 then
    some (.inl (ao.mk o3.Builder o3.b_ (az (o3.at_+1)) o3.aE))
   else
    some (.inr o3)) s_0) fun(o2:ao)=>
 bq (0≤s_0.at_∧s_0.at_≤o2.at_∧o2.at_≤o2.b_.length)<|
 some (aL.mk (part o2.b_ s_0.at_ o2.at_),(decide (o2.at_<(o2.b_.length:Int)))||o2.aE,o2)
def oM:IC:=
 (aj [dT 2 (.str []),dT 3 (.bool false)] [0]
 (aj [mv 5 0,nc 6 5,fa 7 3 6,i1 8 (.bW oz false (.t 7)),mv 4 8] [0,4]
 (.join [(0,false),(4,false)] (.block 0 (.loop [(0,false),(4,false)] (.seq (.seq (.cU (some 23) [mv 9 0,nc 10 9,fa 11 3 10,i1 12 (.bW oz false (.t 11)),mv 13 0,nc 14 13,fa 15 2 14,i1 16 (.bW [.sl false 1 0 []] false (.t 15)),le 17 0 16,bt 18 .lss 12 17,mv 19 18,b6 20 0 19 true,cQ 21 19 true (.nilCheck (.t 20)),fg 22 19 true 2 21,cQ 23 19 true (.bW [.sl false 1 0 []] false (.t 22)),b6 24 0 19 true,cQ 25 19 true (.nilCheck (.t 24)),fg 26 19 true 3 25,cQ 27 19 true (.bW oz false (.t 26)),cQ 28 19 true (.indexAddr [.int .u8 0] (.t 23) (.t 27)),lg 29 19 true 1 28,FC 30 19 true 215 29,pf 31 19 30] [0,4,31])
 (.cond (.t 31) .skip
 (.exit 0)))
 (.block 1 (.cU none [mv 32 0,nc 33 32,fa 34 3 33,i1 35 (.bW oz false (.t 34)),bn 36 .add 35 1,nc 37 32,fa 38 3 37,st 1 38 36] [0,4])))))
 (.seq (.cU (some 29) [mv 39 0,nc 40 39,fa 41 2 40,i1 42 (.bW [.sl false 1 0 []] false (.t 41)),mv 43 4,mv 44 0,nc 45 44,fa 46 3 45,i1 47 (.bW oz false (.t 46)),i1 48 (.slice 1 (.t 42) (some (.t 43)) (some (.t 47)) none),i1 49 (.fA (.t 48)),mv 50 0,nc 51 50,fa 52 3 51,i1 53 (.bW oz false (.t 52)),mv 54 0,nc 55 54,fa 56 2 55,i1 57 (.bW [.sl false 1 0 []] false (.t 56)),le 58 0 57,bt 59 .lss 53 58,mv 60 59,b6 61 0 60 false,cQ 62 60 false (.nilCheck (.t 61)),fg 63 60 false 4 62,cQ 64 60 false (.bW [.bool false] false (.t 63)),po 65 60 64,mv 2 49,mv 3 65] [2,3])
 .ret))))
def nL:List bj:=[⟨2,true,none⟩,⟨3,true,none⟩]
theorem xM:bG Go.Proofs.Tryz.prog 220 66 nL oM=true:=by kernel_rfl
theorem iu{s_0}{B0:Nat}{s:ab}{Q:List AV→ab→Prop}(hB0:s B0=some (.cells [dY 251 B0 0 s_0.Builder,dM s_0.Builder,.sl false 1 s_0.b_.length (flat s_0.b_),.int .i64 s_0.at_,.bool s_0.aE])):ok (dK s_0) (fun r=>Q [.str r.1.b,.bool r.2.1] (s.set B0 (.cells [dY 251 B0 0 r.2.2.Builder,dM r.2.2.Builder,.sl false 1 r.2.2.b_.length (flat r.2.2.b_),.int .i64 r.2.2.at_,.bool r.2.2.aE])))→FN Go.Proofs.Tryz.prog 220 [.ref B0 0] s Q:=by
 have hS:s=(s.set B0 (.cells [dY 251 B0 0 s_0.Builder,dM s_0.Builder,.sl false 1 s_0.b_.length (flat s_0.b_),.int .i64 s_0.at_,.bool s_0.aE])):=by simp only[fu hB0]
 rw[hS]
 intro h
 refine FN.of (ay mix) xM rfl (Nat.le_of_ble_eq_true rfl) ?_
 revert h
 rw[oM,nL,dK]
 repeat'(first
  |with_reducible exact bI
  |with_reducible refine aU ?_ ?_
  |with_reducible exact aV
  |with_reducible refine bN ?_
  |with_reducible refine bM rfl (fun _(h:cW (ix o3.b_ o3.at_)=some _)=>gp h) (fun _=>rfl) (fun r6=>?_)
  |with_reducible refine bM rfl (fun _(h:cW (ix o3.b_ o3.at_)=some _)=>(by refine al ?_ (gp h);simp -implicitDefEqProofs only[go_sem,seval])) (fun _=>rfl) (fun r6=>?_)
  |((with_reducible refine dp (fun(o3:ao)=>⟨[(0,.ref B0 0),(4,.int .i64 s_0.at_)],[],(s.set B0 (.cells [dY 251 B0 0 o3.Builder,dM o3.Builder,.sl false 1 o3.b_.length (flat o3.b_),.int .i64 o3.at_,.bool o3.aE]))⟩) ?_ ?_);(first|exact rfl|simp -implicitDefEqProofs only[go_sem,seval]);rintro J o3)
  |((with_reducible refine ft (fun(o2:ao)=>⟨[(0,.ref B0 0),(4,.int .i64 s_0.at_)],[],(s.set B0 (.cells [dY 251 B0 0 o2.Builder,dM o2.Builder,.sl false 1 o2.b_.length (flat o2.b_),.int .i64 o2.at_,.bool o2.aE]))⟩) (fun J=>?_) ?_);rotate_left;rintro o2)
  |simp -implicitDefEqProofs only[go_sem,seval])
def aX(s_0:aL)(prefix_1:aL):Option (Bool):=
 bq ((decide ((s_0.b.length:Int)≥(prefix_1.b.length:Int)))=true→0≤(0:Int)∧0≤(prefix_1.b.length:Int)∧(prefix_1.b.length:Int)≤s_0.b.length)<|
 some ((decide ((s_0.b.length:Int)≥(prefix_1.b.length:Int)))&&((aL.mk (part s_0.b 0 (prefix_1.b.length:Int))).b==prefix_1.b))
def fx:IC:=
 (aj [dT 4 (.bool false)] [0,1]
 (aj [mv 5 0,le 6 1 5,mv 7 1,le 8 1 7,bt 9 .geq 6 8,mv 10 9,b6 11 0 10 true,b6 12 1 10 true,cQ 13 10 true (.len 1 (.t 12)),cQ 14 10 true (.jq (.t 11) none (some (.t 13))),b6 15 1 10 true,Ap 16 10 true .eql 14 15,pf 17 10 16,mv 4 17] [4]
 .ret))
def fq:List bj:=[⟨4,true,none⟩]
theorem jy:bG Go.Proofs.Tryz.prog 324 18 fq fx=true:=by kernel_rfl
theorem jx{s_0 prefix_1}{s:ab}{Q:List AV→ab→Prop}:ok (aX s_0 prefix_1) (fun r=>Q [.bool r] s)→FN Go.Proofs.Tryz.prog 324 [.str s_0.b,.str prefix_1.b] s Q:=by
 intro h
 refine FN.of (ay mix) jy rfl (Nat.le_of_ble_eq_true rfl) ?_
 revert h
 rw[fx,fq,aX]
 repeat'(first
  |with_reducible exact bI
  |with_reducible refine aU ?_ ?_
  |with_reducible exact aV
  |with_reducible refine bN ?_
  |simp -implicitDefEqProofs only[go_sem,seval])
theorem cP{s_0 prefix_1}{s:ab}{r:Bool}(h:aX s_0 prefix_1=some r):FE Go.Proofs.Tryz.prog 324 [.str s_0.b,.str prefix_1.b] s [.bool r] s:=jx ⟨r,h,rfl,rfl⟩
def bg(s_0:aL)(prefix_1:aL):Option (Bool):=
 cj (aX s_0 prefix_1) fun r1=>
 some r1
def kW:IC:=
 (aj [dT 4 (.bool false)] [0,1]
 (aj [mv 5 0,mv 6 1,c2 7 324 5 6,mv 4 7] [4]
 .ret))
def kj:List bj:=[⟨4,true,none⟩]
theorem sd:bG Go.Proofs.Tryz.prog 288 8 kj kW=true:=by kernel_rfl
theorem sR{s_0 prefix_1}{s:ab}{Q:List AV→ab→Prop}:ok (bg s_0 prefix_1) (fun r=>Q [.bool r] s)→FN Go.Proofs.Tryz.prog 288 [.str s_0.b,.str prefix_1.b] s Q:=by
 intro h
 refine FN.of (ay mix) sd rfl (Nat.le_of_ble_eq_true rfl) ?_
 revert h
 rw[kW,kj,bg]
 repeat'(first
  |with_reducible exact bI
  |with_reducible refine aU ?_ ?_
  |with_reducible exact aV
  |with_reducible refine bN ?_
  |with_reducible refine ak (fun _(h:aX s_0 prefix_1=some _)=>cP h) (fun r1=>?_)
  |with_reducible refine ae (fun _(h:aX s_0 prefix_1=some _)=>cP h) (fun _=>rfl) (fun r1=>?_)
  |with_reducible refine ak (fun _(h:aX s_0 prefix_1=some _)=>(by refine al ?_ (cP h);simp -implicitDefEqProofs only[go_sem,seval])) (fun r1=>?_)
  |with_reducible refine ae (fun _(h:aX s_0 prefix_1=some _)=>(by refine al ?_ (cP h);simp -implicitDefEqProofs only[go_sem,seval])) (fun _=>rfl) (fun r1=>?_)
  |simp -implicitDefEqProofs only[go_sem,seval])
theorem cG{s_0 prefix_1}{s:ab}{r:Bool}(h:bg s_0 prefix_1=some r):FE Go.Proofs.Tryz.prog 288 [.str s_0.b,.str prefix_1.b] s [.bool r] s:=sR ⟨r,h,rfl,rfl⟩
def bL(s_0:aL)(sep_1:aL):Option (aL×aL×Bool):=
 cj (cZ s_0 sep_1) fun r1=>
 if decide (r1≥0)then
  bq (0≤(0:Int)∧0≤r1∧r1≤s_0.b.length)<|
  bq (0≤az (r1+(sep_1.b.length:Int))∧az (r1+(sep_1.b.length:Int))≤(s_0.b.length:Int)∧(s_0.b.length:Int)≤s_0.b.length)<|
  some (aL.mk (part s_0.b 0 r1),aL.mk (part s_0.b (az (r1+(sep_1.b.length:Int))) (s_0.b.length:Int)),true)
 else
  some (s_0,(aL.mk []),false)
def gW:IC:=
 (aj [dT 4 (.str []),dT 5 (.str []),dT 6 (.bool false)] [0,1]
 (.seq (aj [mv 8 0,mv 9 1,c2 10 351 8 9,mv 7 10] [0,1,7]
 (aj [mv 11 7,bn 12 .geq 11 0] [0,1,7,12]
 (.cond (.t 12) (.seq (.cU (some 12) [mv 13 0,mv 14 7,i1 15 (.jq (.t 13) none (some (.t 14))),mv 16 0,mv 17 7,mv 18 1,le 19 1 18,bt 20 .add 17 19,i1 21 (.jq (.t 16) (some (.t 20)) none),mv 4 15,mv 5 21,dT 6 (.bool true)] [4,5,6])
 .ret)
 .skip)))
 (aj [mv 22 0,mv 4 22,dT 5 (.str []),dT 6 (.bool false)] [4,5,6]
 .ret)))
def gK:List bj:=[⟨4,true,none⟩,⟨5,true,none⟩,⟨6,true,none⟩]
theorem l7:bG Go.Proofs.Tryz.prog 325 23 gK gW=true:=by kernel_rfl
theorem l5{s_0 sep_1}{s:ab}{Q:List AV→ab→Prop}:ok (bL s_0 sep_1) (fun r=>Q [.str r.1.b,.str r.2.1.b,.bool r.2.2] s)→FN Go.Proofs.Tryz.prog 325 [.str s_0.b,.str sep_1.b] s Q:=by
 intro h
 refine FN.of (ay mix) l7 rfl (Nat.le_of_ble_eq_true rfl) ?_
 revert h
 rw[gW,gK,bL]
 repeat'(first
  |with_reducible exact bI
  |with_reducible refine aU ?_ ?_
  |with_reducible exact aV
  |with_reducible refine bN ?_
  |with_reducible refine ak (fun _(h:cZ s_0 sep_1=some _)=>fP h) (fun r1=>?_)
  |with_reducible refine ae (fun _(h:cZ s_0 sep_1=some _)=>fP h) (fun _=>rfl) (fun r1=>?_)
  |with_reducible refine ak (fun _(h:cZ s_0 sep_1=some _)=>(by refine al ?_ (fP h);simp -implicitDefEqProofs only[go_sem,seval])) (fun r1=>?_)
  |with_reducible refine ae (fun _(h:cZ s_0 sep_1=some _)=>(by refine al ?_ (fP h);simp -implicitDefEqProofs only[go_sem,seval])) (fun _=>rfl) (fun r1=>?_)
  |simp -implicitDefEqProofs only[go_sem,seval])
theorem dH{s_0 sep_1}{s:ab}{r:aL×aL×Bool}(h:bL s_0 sep_1=some r):FE Go.Proofs.Tryz.prog 325 [.str s_0.b,.str sep_1.b] s [.str r.1.b,.str r.2.1.b,.bool r.2.2] s:=l5 ⟨r,h,rfl,rfl⟩
def fe(s_0:aL)(sep_1:aL):Option (aL×aL×Bool):=
 cj (bL s_0 sep_1) fun r1=>
 some (r1.1,r1.2.1,r1.2.2)
def rV:IC:=
 (aj [dT 4 (.str []),dT 5 (.str []),dT 6 (.bool false)] [0,1]
 (aj [mv 7 0,mv 8 1,c2 9 325 7 8,ex 10 9 0,ex 11 9 1,ex 12 9 2,mv 4 10,mv 5 11,mv 6 12] [4,5,6]
 .ret))
def qR:List bj:=[⟨4,true,none⟩,⟨5,true,none⟩,⟨6,true,none⟩]
theorem Bq:bG Go.Proofs.Tryz.prog 289 13 qR rV=true:=by kernel_rfl
theorem Cs{s_0 sep_1}{s:ab}{Q:List AV→ab→Prop}:ok (fe s_0 sep_1) (fun r=>Q [.str r.1.b,.str r.2.1.b,.bool r.2.2] s)→FN Go.Proofs.Tryz.prog 289 [.str s_0.b,.str sep_1.b] s Q:=by
 intro h
 refine FN.of (ay mix) Bq rfl (Nat.le_of_ble_eq_true rfl) ?_
 revert h
 rw[rV,qR,fe]
 repeat'(first
  |with_reducible exact bI
  |with_reducible refine aU ?_ ?_
  |with_reducible exact aV
  |with_reducible refine bN ?_
  |with_reducible refine ak (fun _(h:bL s_0 sep_1=some _)=>dH h) (fun r1=>?_)
  |with_reducible refine ae (fun _(h:bL s_0 sep_1=some _)=>dH h) (fun _=>rfl) (fun r1=>?_)
  |with_reducible refine ak (fun _(h:bL s_0 sep_1=some _)=>(by refine al ?_ (dH h);simp -implicitDefEqProofs only[go_sem,seval])) (fun r1=>?_)
  |with_reducible refine ae (fun _(h:bL s_0 sep_1=some _)=>(by refine al ?_ (dH h);simp -implicitDefEqProofs only[go_sem,seval])) (fun _=>rfl) (fun r1=>?_)
  |simp -implicitDefEqProofs only[go_sem,seval])
theorem jU{s_0 sep_1}{s:ab}{r:aL×aL×Bool}(h:fe s_0 sep_1=some r):FE Go.Proofs.Tryz.prog 289 [.str s_0.b,.str sep_1.b] s [.str r.1.b,.str r.2.1.b,.bool r.2.2] s:=Cs ⟨r,h,rfl,rfl⟩
def dt(s_0:aL):Option (Int):=
 bq (((s_0.b.length+(aL.mk [48,48,48,48,48,48]).b.length:Nat):Int)≤II)<|
 bq (0≤(0:Int)∧0≤6∧6≤(aL.mk (s_0.b++(aL.mk [48,48,48,48,48,48]).b)).b.length)<|
 cj (dD (aL.mk (part (aL.mk (s_0.b++(aL.mk [48,48,48,48,48,48]).b)).b 0 6))) fun r1=>
 some r1.1
def nw:IC:=
 (aj [mi 2 0] [0]
 (aj [mv 5 0,i1 6 (.bin .add (.t 5) (.c (.str [48,48,48,48,48,48]))),i1 7 (.jq (.t 6) none (some (.c (.int .i64 6)))),mv 0 7] [0]
 (aj [mv 9 0,c1 10 291 9,lj 8 10,ex 11 8 0,ex 12 8 1,mv 3 11,mv 4 12] [3]
 (aj [mv 13 3,mv 2 13] [2]
 .ret))))
def mY:List bj:=[⟨2,true,none⟩]
theorem wF:bG Go.Proofs.Tryz.prog 292 14 mY nw=true:=by kernel_rfl
theorem wM{s_0}{s:ab}{Q:List AV→ab→Prop}:ok (dt s_0) (fun r=>Q [.int .i64 r] s)→FN Go.Proofs.Tryz.prog 292 [.str s_0.b] s Q:=by
 intro h
 refine FN.of (ay mix) wF rfl (Nat.le_of_ble_eq_true rfl) ?_
 revert h
 rw[nw,mY,dt]
 repeat'(first
  |with_reducible exact bI
  |with_reducible refine aU ?_ ?_
  |with_reducible exact aV
  |with_reducible refine bN ?_
  |with_reducible refine ak (fun _(h:dD (aL.mk (part (aL.mk (s_0.b++(aL.mk [48,48,48,48,48,48]).b)).b 0 6))=some _)=>dL h) (fun r1=>?_)
  |with_reducible refine ae (fun _(h:dD (aL.mk (part (aL.mk (s_0.b++(aL.mk [48,48,48,48,48,48]).b)).b 0 6))=some _)=>dL h) (fun _=>rfl) (fun r1=>?_)
  |((fail_if_success (have _x:=r1));with_reducible refine ak (fun _ h=>dL h) (fun r1=>?_))
  |with_reducible refine ak (fun _(h:dD (aL.mk (part (aL.mk (s_0.b++(aL.mk [48,48,48,48,48,48]).b)).b 0 6))=some _)=>(by refine al ?_ (dL h);simp -implicitDefEqProofs only[go_sem,seval])) (fun r1=>?_)
  |with_reducible refine ae (fun _(h:dD (aL.mk (part (aL.mk (s_0.b++(aL.mk [48,48,48,48,48,48]).b)).b 0 6))=some _)=>(by refine al ?_ (dL h);simp -implicitDefEqProofs only[go_sem,seval])) (fun _=>rfl) (fun r1=>?_)
  |simp -implicitDefEqProofs only[go_sem,seval])
theorem gX{s_0}{s:ab}{r:Int}(h:dt s_0=some r):FE Go.Proofs.Tryz.prog 292 [.str s_0.b] s [.int .i64 r] s:=wM ⟨r,h,rfl,rfl⟩
def gS(v_0:aa):Option (Int):=
 xR (
  if v_0.Kind==2 then
   some (.inl 2147483647)
  else
   if v_0.Kind==3 then
    some (.inl 2147483647000000)
   else
    some (.inr (2:Int))) (fun(limit2:Int)=>
  if(((decide (v_0.N<az (0 -limit2)))||(decide (v_0.N>limit2)))||(!(v_0.S.b==(aL.mk []).b)))||(decide ((v_0.L.length:Int)>0))then
   some 2
  else
   some 0)
 (fun(t3:Int)=>some t3)
def we:IC:=
 (aj [i1 1 (.lZ 4 (.t 0)),mi 2 0] [1]
 (aj [mi 3 0] [1]
 (.join [(1,false),(3,false)] (aj [fa 4 0 1,ld 5 1 4] [1,5]
 (.block 0 (aj [bn 7 .eql 5 2,mv 6 7] [1,5,6]
 (.cond (.t 6) (.cU none [mi 3 2147483647] [1,3])
 (aj [bn 9 .eql 5 3,mv 8 9] [1,8]
 (.cond (.t 8) (.cU none [mi 3 2147483647000000] [1,3])
 (aj [mi 2 2] [2]
 .ret)))))))
 (.seq (aj [fa 10 1 1,ld 11 1 10,mv 12 3,i1 13 (.un .neg (.t 12)),bt 14 .lss 11 13,mv 15 14,fg 16 15 false 1 1,lg 17 15 false 1 16,b6 18 3 15 false,Ap 19 15 false .gtr 17 18,po 20 15 19,mv 21 20,fg 22 21 false 2 1,lg 23 21 false 1 22,cQ 24 21 false (.bin .neq (.t 23) (.c (.str []))),po 25 21 24,mv 26 25,fg 27 26 false 3 1,lg 28 26 false 1 27,cQ 29 26 false (.len 0 (.t 28)),jz 30 26 false .gtr 29 0,po 31 26 30] [31]
 (.cond (.t 31) (aj [mi 2 2] [2]
 .ret)
 .skip))
 (aj [mi 2 0] [2]
 .ret)))))
def uw:List bj:=[⟨2,true,none⟩]
theorem E0:bG Go.Proofs.Tryz.prog 293 32 uw we=true:=by kernel_rfl
theorem Fm{v_0}{s:ab}{Q:List AV→ab→Prop}:ok (gS v_0) (fun r=>Q [.int .i64 r] s)→FN Go.Proofs.Tryz.prog 293 [.agg [.int .i64 v_0.Kind,.int .i64 v_0.N,.str v_0.S.b,.sl false 4 v_0.L.length (flat v_0.L)]] s Q:=by
 intro h
 refine FN.of (ay mix) E0 rfl (Nat.le_of_ble_eq_true rfl) ?_
 revert h
 rw[we,uw,gS]
 repeat'(first
  |with_reducible exact bI
  |with_reducible refine aU ?_ ?_
  |with_reducible exact aV
  |with_reducible refine bN ?_
  |((with_reducible refine dh (fun(limit2:Int)=>⟨[(1,.loc [.int .i64 v_0.Kind,.int .i64 v_0.N,.str v_0.S.b,.sl false 4 v_0.L.length (flat v_0.L)]),(3,.int .i64 limit2)],[],s⟩) (fun J=>?_) ?_);rotate_left;rintro limit2)
  |simp -implicitDefEqProofs only[go_sem,seval])
theorem ma{v_0}{s:ab}{r:Int}(h:gS v_0=some r):FE Go.Proofs.Tryz.prog 293 [.agg [.int .i64 v_0.Kind,.int .i64 v_0.N,.str v_0.S.b,.sl false 4 v_0.L.length (flat v_0.L)]] s [.int .i64 r] s:=Fm ⟨r,h,rfl,rfl⟩
def gT(s_0:aL):Option (aa×Int):=
 jn (
  cj (bg s_0 (aL.mk [45])) fun r4=>
  if r4 then
   bq (0≤(1:Int)∧1≤(s_0.b.length:Int)∧(s_0.b.length:Int)≤s_0.b.length)<|
   some ((-1),aL.mk (part s_0.b 1 (s_0.b.length:Int)))
  else
   cj (bg s_0 (aL.mk [43])) fun r5=>
   if r5 then
    bq (0≤(1:Int)∧1≤(s_0.b.length:Int)∧(s_0.b.length:Int)≤s_0.b.length)<|
    some (1,aL.mk (part s_0.b 1 (s_0.b.length:Int)))
   else
    some (1,s_0)) fun((sign2,body3):Int×aL)=>
 cj (fe body3 (aL.mk [46])) fun r6=>
 cj (fy (!((az ((r6.1.b.length:Int)+(r6.2.1.b.length:Int)))==0)) false (jb r6.1)) fun r7=>
 cj (fy (!(((az ((r6.1.b.length:Int)+(r6.2.1.b.length:Int)))==0)||(!r7))) false (jb r6.2.1)) fun r8=>
 if(((az ((r6.1.b.length:Int)+(r6.2.1.b.length:Int)))==0)||(!r7))||(!r8)then
  some ((aa.mk 0 0 (aL.mk []) ([]:List aa)),11)
 else
  bq ((((aL.mk [48]).b.length+r6.1.b.length:Nat):Int)≤II)<|
  cj (dD (aL.mk ((aL.mk [48]).b++r6.1.b))) fun r9=>
  if r9.2 !=0 then
   some ((aa.mk 0 0 (aL.mk []) ([]:List aa)),r9.2)
  else
   if !r6.2.2 then
    some ((aa.mk 2 (az (sign2*r9.1)) (aL.mk []) ([]:List aa)),0)
   else
    cj (dt r6.2.1) fun r10=>
    cj (gS (aa.mk 3 (az (sign2*(az ((az (r9.1*1000000))+r10)))) (aL.mk []) ([]:List aa))) fun r11=>
    if r11 !=0 then
     some ((aa.mk 0 0 (aL.mk []) ([]:List aa)),5)
    else
     some ((aa.mk 3 (az (sign2*(az ((az (r9.1*1000000))+r10)))) (aL.mk []) ([]:List aa)),0)
def wg:IC:=
 (aj [i1 2 (.aQ iC),mi 3 0] [0,2]
 (aj [mi 4 1] [0,2,4]
 (aj [mv 12 0,mv 5 12] [0,2,4,5]
 (.join [(2,false),(4,false),(5,false)] (.block 0 (aj [mv 14 0,i1 15 (.call 288 [(.t 14),(.c (.str [45]))]),mv 13 15] [0,2,4,5,13]
 (.cond (.t 13) (.cU (some 4) [mv 16 0,i1 17 (.jq (.t 16) (some (.c (.int .i64 1))) none),mi 4 (-1),mv 5 17] [2,4,5])
 (aj [mv 19 0,i1 20 (.call 288 [(.t 19),(.c (.str [43]))]),mv 18 20] [0,2,4,5,18]
 (.cond (.t 18) (.cU none [mv 21 0,i1 22 (.jq (.t 21) (some (.c (.int .i64 1))) none),mv 5 22] [2,4,5])
 .skip)))))
 (aj [mv 24 5,i1 25 (.call 289 [(.t 24),(.c (.str [46]))]),lj 23 25,ex 26 23 0,ex 27 23 1,ex 28 23 2,mv 6 26,mv 7 27,mv 8 28] [2,4,6,7,8]
 (.seq (.seq (.cU (some 14) [mv 29 6,le 30 1 29,mv 31 7,le 32 1 31,bt 33 .add 30 32,bn 34 .eql 33 0,mv 35 34,b6 36 6 35 false,FC 37 35 false 290 36,cQ 38 35 false (.un .not (.t 37)),po 39 35 38,mv 40 39,b6 41 7 40 false,FC 42 40 false 290 41,cQ 43 40 false (.un .not (.t 42)),po 44 40 43] [2,4,6,7,8,44])
 (.cond (.t 44) (aj [i1 45 (.build iC []),st 4 2 45,mi 3 11] [2,3]
 .ret)
 .skip))
 (aj [mv 47 6,i1 48 (.bin .add (.c (.str [48])) (.t 47)),c1 49 291 48,lj 46 49,ex 50 46 0,ex 51 46 1,mv 9 50,mv 10 51] [2,4,7,8,9,10]
 (.seq (aj [mv 52 10,bn 53 .neq 52 0] [2,4,7,8,9,10,53]
 (.cond (.t 53) (aj [i1 54 (.build iC []),mv 55 10,st 4 2 54,mv 3 55] [2,3]
 .ret)
 .skip))
 (.seq (aj [mv 56 8,no 57 56] [2,4,7,9,57]
 (.cond (.t 57) (aj [mv 58 4,mv 59 9,bt 60 .mul 58 59,i1 61 (.build iC [(0,1,(.c (.int .i64 2))),(1,1,(.t 60))]),st 4 2 61,mi 3 0] [2,3]
 .ret)
 .skip))
 (aj [mv 62 4,mv 63 9,bn 64 .mul 63 1000000,mv 65 7,c1 66 292 65,bt 67 .add 64 66,bt 68 .mul 62 67,i1 69 (.build iC [(0,1,(.c (.int .i64 3))),(1,1,(.t 68))]),i1 11 (.aQ iC),st 4 11 69] [2,11]
 (.seq (aj [lm 70 4 11,c1 71 293 70,bn 72 .neq 71 0] [2,11,72]
 (.cond (.t 72) (aj [i1 73 (.build iC []),st 4 2 73,mi 3 5] [2,3]
 .ret)
 .skip))
 (aj [lm 74 4 11,st 4 2 74,mi 3 0] [2,3]
 .ret))))))))))))
def ux:List bj:=[⟨2,false,some (4,true)⟩,⟨3,true,none⟩]
theorem E1:bG Go.Proofs.Tryz.prog 252 75 ux wg=true:=by kernel_rfl
theorem Fo{s_0}{s:ab}{Q:List AV→ab→Prop}:ok (gT s_0) (fun r=>Q [.agg [.int .i64 r.1.Kind,.int .i64 r.1.N,.str r.1.S.b,.sl false 4 r.1.L.length (flat r.1.L)],.int .i64 r.2] s)→FN Go.Proofs.Tryz.prog 252 [.str s_0.b] s Q:=by
 intro h
 refine FN.of (ay mix) E1 rfl (Nat.le_of_ble_eq_true rfl) ?_
 revert h
 rw[wg,ux,gT]
 repeat'(first
  |with_reducible exact bI
  |with_reducible refine aU ?_ ?_
  |with_reducible exact aV
  |with_reducible refine bN ?_
  |with_reducible refine ak (fun _(h:bg s_0 (aL.mk [45])=some _)=>cG h) (fun r4=>?_)
  |with_reducible refine ae (fun _(h:bg s_0 (aL.mk [45])=some _)=>cG h) (fun _=>rfl) (fun r4=>?_)
  |with_reducible refine ak (fun _(h:bg s_0 (aL.mk [45])=some _)=>(by refine al ?_ (cG h);simp -implicitDefEqProofs only[go_sem,seval])) (fun r4=>?_)
  |with_reducible refine ae (fun _(h:bg s_0 (aL.mk [45])=some _)=>(by refine al ?_ (cG h);simp -implicitDefEqProofs only[go_sem,seval])) (fun _=>rfl) (fun r4=>?_)
  |with_reducible refine ak (fun _(h:bg s_0 (aL.mk [43])=some _)=>cG h) (fun r5=>?_)
  |with_reducible refine ae (fun _(h:bg s_0 (aL.mk [43])=some _)=>cG h) (fun _=>rfl) (fun r5=>?_)
  |with_reducible refine ak (fun _(h:bg s_0 (aL.mk [43])=some _)=>(by refine al ?_ (cG h);simp -implicitDefEqProofs only[go_sem,seval])) (fun r5=>?_)
  |with_reducible refine ae (fun _(h:bg s_0 (aL.mk [43])=some _)=>(by refine al ?_ (cG h);simp -implicitDefEqProofs only[go_sem,seval])) (fun _=>rfl) (fun r5=>?_)
  |with_reducible refine ak (fun _(h:fe body3 (aL.mk [46])=some _)=>jU h) (fun r6=>?_)
  |with_reducible refine ae (fun _(h:fe body3 (aL.mk [46])=some _)=>jU h) (fun _=>rfl) (fun r6=>?_)
  |with_reducible refine ak (fun _(h:fe body3 (aL.mk [46])=some _)=>(by refine al ?_ (jU h);simp -implicitDefEqProofs only[go_sem,seval])) (fun r6=>?_)
  |with_reducible refine ae (fun _(h:fe body3 (aL.mk [46])=some _)=>(by refine al ?_ (jU h);simp -implicitDefEqProofs only[go_sem,seval])) (fun _=>rfl) (fun r6=>?_)
  |with_reducible refine bM rfl (fun _(h:jb r6.1=some _)=>pX h) (fun _=>rfl) (fun r7=>?_)
  |with_reducible refine bM rfl (fun _(h:jb r6.1=some _)=>(by refine al ?_ (pX h);simp -implicitDefEqProofs only[go_sem,seval])) (fun _=>rfl) (fun r7=>?_)
  |with_reducible refine bM rfl (fun _(h:jb r6.2.1=some _)=>pX h) (fun _=>rfl) (fun r8=>?_)
  |with_reducible refine bM rfl (fun _(h:jb r6.2.1=some _)=>(by refine al ?_ (pX h);simp -implicitDefEqProofs only[go_sem,seval])) (fun _=>rfl) (fun r8=>?_)
  |with_reducible refine ak (fun _(h:dD (aL.mk ((aL.mk [48]).b++r6.1.b))=some _)=>dL h) (fun r9=>?_)
  |with_reducible refine ae (fun _(h:dD (aL.mk ((aL.mk [48]).b++r6.1.b))=some _)=>dL h) (fun _=>rfl) (fun r9=>?_)
  |((fail_if_success (have _x:=r9));with_reducible refine ak (fun _ h=>dL h) (fun r9=>?_))
  |with_reducible refine ak (fun _(h:dD (aL.mk ((aL.mk [48]).b++r6.1.b))=some _)=>(by refine al ?_ (dL h);simp -implicitDefEqProofs only[go_sem,seval])) (fun r9=>?_)
  |with_reducible refine ae (fun _(h:dD (aL.mk ((aL.mk [48]).b++r6.1.b))=some _)=>(by refine al ?_ (dL h);simp -implicitDefEqProofs only[go_sem,seval])) (fun _=>rfl) (fun r9=>?_)
  |with_reducible refine ak (fun _(h:dt r6.2.1=some _)=>gX h) (fun r10=>?_)
  |with_reducible refine ae (fun _(h:dt r6.2.1=some _)=>gX h) (fun _=>rfl) (fun r10=>?_)
  |with_reducible refine ak (fun _(h:dt r6.2.1=some _)=>(by refine al ?_ (gX h);simp -implicitDefEqProofs only[go_sem,seval])) (fun r10=>?_)
  |with_reducible refine ae (fun _(h:dt r6.2.1=some _)=>(by refine al ?_ (gX h);simp -implicitDefEqProofs only[go_sem,seval])) (fun _=>rfl) (fun r10=>?_)
  |with_reducible refine ak (fun _(h:gS (aa.mk 3 (az (sign2*(az ((az (r9.1*1000000))+r10)))) (aL.mk []) ([]:List aa))=some _)=>ma h) (fun r11=>?_)
  |with_reducible refine ae (fun _(h:gS (aa.mk 3 (az (sign2*(az ((az (r9.1*1000000))+r10)))) (aL.mk []) ([]:List aa))=some _)=>ma h) (fun _=>rfl) (fun r11=>?_)
  |with_reducible refine ak (fun _(h:gS (aa.mk 3 (az (sign2*(az ((az (r9.1*1000000))+r10)))) (aL.mk []) ([]:List aa))=some _)=>(by refine al ?_ (ma h);simp -implicitDefEqProofs only[go_sem,seval])) (fun r11=>?_)
  |with_reducible refine ae (fun _(h:gS (aa.mk 3 (az (sign2*(az ((az (r9.1*1000000))+r10)))) (aL.mk []) ([]:List aa))=some _)=>(by refine al ?_ (ma h);simp -implicitDefEqProofs only[go_sem,seval])) (fun _=>rfl) (fun r11=>?_)
  |((with_reducible refine ft (fun((sign2,body3):Int×aL)=>⟨[(2,.loc [.int .i64 0,.int .i64 0,.str (aL.mk []).b,.sl true 4 0 []]),(4,.int .i64 sign2),(5,.str body3.b)],[],s⟩) (fun J=>?_) ?_);rotate_left;rintro⟨sign2,body3⟩)
  |simp -implicitDefEqProofs only[go_sem,seval])
theorem mb{s_0}{s:ab}{r:aa×Int}(h:gT s_0=some r):FE Go.Proofs.Tryz.prog 252 [.str s_0.b] s [.agg [.int .i64 r.1.Kind,.int .i64 r.1.N,.str r.1.S.b,.sl false 4 r.1.L.length (flat r.1.L)],.int .i64 r.2] s:=Fo ⟨r,h,rfl,rfl⟩
def dP(s_0:ao):Option (aF×Int×ao):=
 cj (dK s_0) fun r1=>
 if !r1.2.1 then
  some ((aF.mk 0 0 0 (aa.mk 0 0 (aL.mk []) ([]:List aa)) (aL.mk [])),6,r1.2.2)
 else
  bq (0≤(0:Int)∧(0:Int)<r1.1.b.length)<|
  if((((decide (((ix r1.1.b 0).toNat:Int)≥48))&&(decide (((ix r1.1.b 0).toNat:Int)≤57)))||(((ix r1.1.b 0).toNat:Int)==43))||(((ix r1.1.b 0).toNat:Int)==45))||(((ix r1.1.b 0).toNat:Int)==46)then
   cj (gT r1.1) fun r2=>
   some ((aF.mk 1 0 0 r2.1 (aL.mk [])),r2.2,r1.2.2)
  else
   some ((aF.mk 6 0 0 (aa.mk 0 0 (aL.mk []) ([]:List aa)) r1.1),0,r1.2.2)
def kU:IC:=
 (aj [i1 2 (.aQ jY),mi 3 0] [0,2]
 (aj [mv 10 0,c1 11 220 10,lj 9 11,ex 12 9 0,ex 13 9 1,mv 4 12,mv 5 13] [2,4,5]
 (.seq (aj [mv 14 5,no 15 14] [2,4,15]
 (.cond (.t 15) (aj [i1 16 (.build jY []),st 8 2 16,mi 3 6] [2,3]
 .ret)
 .skip))
 (.seq (aj [mv 17 4,i1 18 (.dJ (.t 17) (.c (.int .i64 0))),mv 6 18] [2,4,6]
 (aj [mv 19 6,bu 20 .geq 19 48,mv 21 20,b6 22 6 21 true,cQ 23 21 true (.bin .leq (.t 22) (.c (.int .u8 57))),pf 24 21 23,mv 25 24,b6 26 6 25 false,cQ 27 25 false (.bin .eql (.t 26) (.c (.int .u8 43))),po 28 25 27,mv 29 28,b6 30 6 29 false,cQ 31 29 false (.bin .eql (.t 30) (.c (.int .u8 45))),po 32 29 31,mv 33 32,b6 34 6 33 false,cQ 35 33 false (.bin .eql (.t 34) (.c (.int .u8 46))),po 36 33 35] [2,4,36]
 (.cond (.t 36) (aj [mv 38 4,c1 39 252 38,lj 37 39,ex 40 37 0,ex 41 37 1,i1 7 (.aQ iC),st 4 7 40,mv 8 41] [2,7,8]
 (aj [lm 42 4 7,i1 43 (.build jY [(0,1,(.c (.int .i64 1))),(3,4,(.t 42))]),mv 44 8,st 8 2 43,mv 3 44] [2,3]
 .ret))
 .skip)))
 (aj [mv 45 4,i1 46 (.build jY [(0,1,(.c (.int .i64 6))),(7,1,(.t 45))]),st 8 2 46,mi 3 0] [2,3]
 .ret)))))
def kg:List bj:=[⟨2,false,some (8,true)⟩,⟨3,true,none⟩]
theorem sa:bG Go.Proofs.Tryz.prog 216 47 kg kU=true:=by kernel_rfl
theorem kY{s_0}{B0:Nat}{s:ab}{Q:List AV→ab→Prop}(hB0:s B0=some (.cells [dY 251 B0 0 s_0.Builder,dM s_0.Builder,.sl false 1 s_0.b_.length (flat s_0.b_),.int .i64 s_0.at_,.bool s_0.aE])):ok (dP s_0) (fun r=>Q [.agg [.int .i64 r.1.Kind,.int .i64 r.1.bP,.int .i64 r.1.To,.int .i64 r.1.V.Kind,.int .i64 r.1.V.N,.str r.1.V.S.b,.sl false 4 r.1.V.L.length (flat r.1.V.L),.str r.1.S.b],.int .i64 r.2.1] (s.set B0 (.cells [dY 251 B0 0 r.2.2.Builder,dM r.2.2.Builder,.sl false 1 r.2.2.b_.length (flat r.2.2.b_),.int .i64 r.2.2.at_,.bool r.2.2.aE])))→FN Go.Proofs.Tryz.prog 216 [.ref B0 0] s Q:=by
 have hS:s=(s.set B0 (.cells [dY 251 B0 0 s_0.Builder,dM s_0.Builder,.sl false 1 s_0.b_.length (flat s_0.b_),.int .i64 s_0.at_,.bool s_0.aE])):=by simp only[fu hB0]
 rw[hS]
 intro h
 refine FN.of (ay mix) sa rfl (Nat.le_of_ble_eq_true rfl) ?_
 revert h
 rw[kU,kg,dP]
 repeat'(first
  |with_reducible exact bI
  |with_reducible refine aU ?_ ?_
  |with_reducible exact aV
  |with_reducible refine bN ?_
  |with_reducible refine fun hh=>iu (B0:=B0) (by simp -implicitDefEqProofs only[go_sem,seval]<;>simp only[aH]) (aS (show ok (dK s_0) _ from hh) fun r1=>?_)
  |with_reducible refine fun hh=>dw (by simp -implicitDefEqProofs only[go_sem,seval]) (iu (B0:=B0) (by simp -implicitDefEqProofs only[go_sem,seval]<;>simp only[aH]) (aS (show ok (dK s_0) _ from hh) fun r1=>?_))
  |with_reducible refine ak (fun _(h:gT r1.1=some _)=>mb h) (fun r2=>?_)
  |with_reducible refine ae (fun _(h:gT r1.1=some _)=>mb h) (fun _=>rfl) (fun r2=>?_)
  |with_reducible refine ak (fun _(h:gT r1.1=some _)=>(by refine al ?_ (mb h);simp -implicitDefEqProofs only[go_sem,seval])) (fun r2=>?_)
  |with_reducible refine ae (fun _(h:gT r1.1=some _)=>(by refine al ?_ (mb h);simp -implicitDefEqProofs only[go_sem,seval])) (fun _=>rfl) (fun r2=>?_)
  |simp -implicitDefEqProofs only[go_sem,seval])
def aR(s_0:ao):Option (UInt8×Bool):=
 if decide (s_0.at_≥(s_0.b_.length:Int))then
  some (0,false)
 else
  bq (0≤s_0.at_∧s_0.at_<s_0.b_.length)<|
  some (ix s_0.b_ s_0.at_,true)
def oK:IC:=
 (aj [dT 2 (.int .u8 0),dT 3 (.bool false)] [0]
 (.seq (.seq (.cU (some 10) [mv 4 0,nc 5 4,fa 6 3 5,i1 7 (.bW oz false (.t 6)),mv 8 0,nc 9 8,fa 10 2 9,i1 11 (.bW [.sl false 1 0 []] false (.t 10)),le 12 0 11,bt 13 .geq 7 12] [0,13])
 (.cond (.t 13) (aj [dT 2 (.int .u8 0),dT 3 (.bool false)] [2,3]
 .ret)
 .skip))
 (.seq (.cU (some 12) [mv 14 0,nc 15 14,fa 16 2 15,i1 17 (.bW [.sl false 1 0 []] false (.t 16)),mv 18 0,nc 19 18,fa 20 3 19,i1 21 (.bW oz false (.t 20)),ia 22 [.int .u8 0] 17 21,ld 23 1 22,mv 2 23,dT 3 (.bool true)] [2,3])
 .ret)))
def nJ:List bj:=[⟨2,true,none⟩,⟨3,true,none⟩]
theorem xK:bG Go.Proofs.Tryz.prog 253 24 nJ oK=true:=by kernel_rfl
theorem xU{s_0}{B0:Nat}{s:ab}{Q:List AV→ab→Prop}(hB0:s B0=some (.cells [dY 251 B0 0 s_0.Builder,dM s_0.Builder,.sl false 1 s_0.b_.length (flat s_0.b_),.int .i64 s_0.at_,.bool s_0.aE])):ok (aR s_0) (fun r=>Q [.int .u8 r.1.toNat,.bool r.2] s)→FN Go.Proofs.Tryz.prog 253 [.ref B0 0] s Q:=by
 have hS:s=(s.set B0 (.cells [dY 251 B0 0 s_0.Builder,dM s_0.Builder,.sl false 1 s_0.b_.length (flat s_0.b_),.int .i64 s_0.at_,.bool s_0.aE])):=by simp only[fu hB0]
 rw[hS]
 intro h
 refine FN.of (ay mix) xK rfl (Nat.le_of_ble_eq_true rfl) ?_
 revert h
 rw[oK,nJ,aR]
 repeat'(first
  |with_reducible exact bI
  |with_reducible refine aU ?_ ?_
  |with_reducible exact aV
  |with_reducible refine bN ?_
  |simp -implicitDefEqProofs only[go_sem,seval])
theorem bR{s_0}{B0:Nat}{s:ab}{r:UInt8×Bool}(hB0:s B0=some (.cells [dY 251 B0 0 s_0.Builder,dM s_0.Builder,.sl false 1 s_0.b_.length (flat s_0.b_),.int .i64 s_0.at_,.bool s_0.aE]))(h:aR s_0=some r):FE Go.Proofs.Tryz.prog 253 [.ref B0 0] s [.int .u8 r.1.toNat,.bool r.2] s:=xU hB0 ⟨r,h,rfl,rfl⟩
def bF(s_0:ao):Option (Int):=
 if s_0.aE then
  some 10
 else
  some 6
def oJ:IC:=
 (aj [mi 2 0] [0]
 (.seq (aj [mv 3 0,nc 4 3,fa 5 4 4,i1 6 (.bW [.bool false] false (.t 5))] [6]
 (.cond (.t 6) (aj [mi 2 10] [2]
 .ret)
 .skip))
 (aj [mi 2 6] [2]
 .ret)))
def nI:List bj:=[⟨2,true,none⟩]
theorem xJ:bG Go.Proofs.Tryz.prog 254 7 nI oJ=true:=by kernel_rfl
theorem xT{s_0}{B0:Nat}{s:ab}{Q:List AV→ab→Prop}(hB0:s B0=some (.cells [dY 251 B0 0 s_0.Builder,dM s_0.Builder,.sl false 1 s_0.b_.length (flat s_0.b_),.int .i64 s_0.at_,.bool s_0.aE])):ok (bF s_0) (fun r=>Q [.int .i64 r] s)→FN Go.Proofs.Tryz.prog 254 [.ref B0 0] s Q:=by
 have hS:s=(s.set B0 (.cells [dY 251 B0 0 s_0.Builder,dM s_0.Builder,.sl false 1 s_0.b_.length (flat s_0.b_),.int .i64 s_0.at_,.bool s_0.aE])):=by simp only[fu hB0]
 rw[hS]
 intro h
 refine FN.of (ay mix) xJ rfl (Nat.le_of_ble_eq_true rfl) ?_
 revert h
 rw[oJ,nI,bF]
 repeat'(first
  |with_reducible exact bI
  |with_reducible refine aU ?_ ?_
  |with_reducible exact aV
  |with_reducible refine bN ?_
  |simp -implicitDefEqProofs only[go_sem,seval])
theorem cT{s_0}{B0:Nat}{s:ab}{r:Int}(hB0:s B0=some (.cells [dY 251 B0 0 s_0.Builder,dM s_0.Builder,.sl false 1 s_0.b_.length (flat s_0.b_),.int .i64 s_0.at_,.bool s_0.aE]))(h:bF s_0=some r):FE Go.Proofs.Tryz.prog 254 [.ref B0 0] s [.int .i64 r] s:=xT hB0 ⟨r,h,rfl,rfl⟩
def dq(c_0:UInt8):Option (Int):=
 if(decide ((c_0.toNat:Int)≥48))&&(decide ((c_0.toNat:Int)≤57))then
  some (az (((nh ((c_0.toNat:Int) -48)).toNat:Int)))
 else
  if(decide ((c_0.toNat:Int)≥97))&&(decide ((c_0.toNat:Int)≤102))then
   some (az ((az (((nh ((c_0.toNat:Int) -97)).toNat:Int)))+10))
  else
   if(decide ((c_0.toNat:Int)≥65))&&(decide ((c_0.toNat:Int)≤70))then
    some (az ((az (((nh ((c_0.toNat:Int) -65)).toNat:Int)))+10))
   else
    some (-1)
def A3:IC:=
 (aj [mi 2 0] [0]
 (.seq (.block 0 (aj [mv 4 0,bu 5 .geq 4 48,mv 6 5,b6 7 0 6 true,cQ 8 6 true (.bin .leq (.t 7) (.c (.int .u8 57))),pf 9 6 8,mv 3 9] [0,3]
 (.cond (.t 3) (aj [mv 10 0,bu 11 .sub 10 48,i1 12 (.dN .i64 (.t 11)),mv 2 12] [2]
 .ret)
 (aj [mv 14 0,bu 15 .geq 14 97,mv 16 15,b6 17 0 16 true,cQ 18 16 true (.bin .leq (.t 17) (.c (.int .u8 102))),pf 19 16 18,mv 13 19] [0,13]
 (.cond (.t 13) (aj [mv 20 0,bu 21 .sub 20 97,i1 22 (.dN .i64 (.t 21)),bn 23 .add 22 10,mv 2 23] [2]
 .ret)
 (aj [mv 25 0,bu 26 .geq 25 65,mv 27 26,b6 28 0 27 true,cQ 29 27 true (.bin .leq (.t 28) (.c (.int .u8 70))),pf 30 27 29,mv 24 30] [0,24]
 (.cond (.t 24) (aj [mv 31 0,bu 32 .sub 31 65,i1 33 (.dN .i64 (.t 32)),bn 34 .add 33 10,mv 2 34] [2]
 .ret)
 .skip)))))))
 (aj [mi 2 (-1)] [2]
 .ret)))
def yR:List bj:=[⟨2,true,none⟩]
theorem IV:bG Go.Proofs.Tryz.prog 260 35 yR A3=true:=by kernel_rfl
theorem I4{c_0}{s:ab}{Q:List AV→ab→Prop}:ok (dq c_0) (fun r=>Q [.int .i64 r] s)→FN Go.Proofs.Tryz.prog 260 [.int .u8 c_0.toNat] s Q:=by
 intro h
 refine FN.of (ay mix) IV rfl (Nat.le_of_ble_eq_true rfl) ?_
 revert h
 rw[A3,yR,dq]
 repeat'(first
  |with_reducible exact bI
  |with_reducible refine aU ?_ ?_
  |with_reducible exact aV
  |with_reducible refine bN ?_
  |simp -implicitDefEqProofs only[go_sem,seval])
theorem di{c_0}{s:ab}{r:Int}(h:dq c_0=some r):FE Go.Proofs.Tryz.prog 260 [.int .u8 c_0.toNat] s [.int .i64 r] s:=I4 ⟨r,h,rfl,rfl⟩
def eF(s_0:ao):Option (aa×Int×ao):=
 iter (fun((half1,o2):Int×ao)=>
  cj (aR o2) fun r6=>
  if !r6.2 then
   cj (bF o2) fun r7=>
   some (.inr ((aa.mk 0 0 (aL.mk []) ([]:List aa)),r7,o2))
  else
   cj (dq r6.1) fun r8=>
   xR (
    if((r6.1.toNat:Int)==62)&&(decide (half1≥0))then
     cj (aw o2.Builder (nh (az (16*half1)))) fun r15=>
     cj (aY r15.2) fun r16=>
     some (.inr ((aa.mk 4 0 r16.1 ([]:List aa)),(0:Int),(ao.mk r16.2 o2.b_ (az (o2.at_+1)) o2.aE)))
    else
     if(r6.1.toNat:Int)==62 then
      cj (aY o2.Builder) fun r17=>
      some (.inr ((aa.mk 4 0 r17.1 ([]:List aa)),(0:Int),(ao.mk r17.2 o2.b_ (az (o2.at_+1)) o2.aE)))
     else
      cj (cS r6.1) fun r18=>
      if r18 then
       some (.inl (half1,(ao.mk o2.Builder o2.b_ (az (o2.at_+1)) o2.aE)))
      else
       if decide (r8<0)then
        some (.inr ((aa.mk 0 0 (aL.mk []) ([]:List aa)),(11:Int),(ao.mk o2.Builder o2.b_ (az (o2.at_+1)) o2.aE)))
       else
        if decide (half1<0)then
         some (.inl (r8,(ao.mk o2.Builder o2.b_ (az (o2.at_+1)) o2.aE)))
        else
         cj (aw o2.Builder (nh (az ((az (16*half1))+r8)))) fun r19=>
         some (.inl ((-1),(ao.mk r19.2 o2.b_ (az (o2.at_+1)) o2.aE)))) (fun((half10,o11):Int×ao)=>
    some (.inl (half10,o11)))
   (fun((t12,t13,o14):aa×Int×ao)=>some (.inr (t12,t13,o14)))) ((-1),s_0)
def nt:IC:=
 (aj [i1 2 (.aQ iC),mi 3 0] [0,2]
 (.vt 0 [(0,false),(2,false),(4,false)] (.cU none [mi 4 (-1)] [0,2,4])
 .skip
 .skip
 (aj [mv 9 0,c1 10 253 9,lj 8 10,ex 11 8 0,ex 12 8 1,mv 5 11,mv 6 12] [0,2,4,5,6]
 (.seq (aj [mv 13 6,no 14 13] [0,2,4,5,14]
 (.cond (.t 14) (aj [i1 15 (.build iC []),mv 16 0,c1 17 254 16,st 4 2 15,mv 3 17] [2,3]
 .ret)
 .skip))
 (aj [mv 18 0,nc 19 18,fa 20 3 19,i1 21 (.bW oz false (.t 20)),bn 22 .add 21 1,nc 23 18,fa 24 3 23,st 1 24 22] [0,2,4,5]
 (aj [mv 25 5,c1 26 260 25,mv 7 26] [0,2,4,5,7]
 (.join [(0,false),(2,false),(4,false)] (.block 0 (aj [mv 37 5,bu 38 .eql 37 62,mv 39 38,b6 40 4 39 true,jz 41 39 true .geq 40 0,pf 42 39 41,mv 36 42] [0,2,4,5,7,36]
 (.cond (.t 36) (aj [mv 43 0,nc 44 43,fa 45 0 44,mv 46 4,i1 47 (.bin .mul (.c (.int .i64 16)) (.t 46)),i1 48 (.dN .u8 (.t 47)),c2 49 259 45 48] [0,2]
 (aj [mv 50 0,nc 51 50,fa 52 0 51,c1 53 258 52,i1 54 (.build iC [(0,1,(.c (.int .i64 4))),(2,1,(.t 53))]),st 4 2 54,mi 3 0] [2,3]
 .ret))
 (aj [mv 56 5,bu 57 .eql 56 62,mv 55 57] [0,2,4,5,7,55]
 (.cond (.t 55) (aj [mv 58 0,nc 59 58,fa 60 0 59,c1 61 258 60,i1 62 (.build iC [(0,1,(.c (.int .i64 4))),(2,1,(.t 61))]),st 4 2 62,mi 3 0] [2,3]
 .ret)
 (aj [mv 64 5,c1 65 67 64,mv 63 65] [0,2,4,7,63]
 (.cond (.t 63) .skip
 (aj [mv 67 7,bn 68 .lss 67 0,mv 66 68] [0,2,4,7,66]
 (.cond (.t 66) (aj [i1 69 (.build iC []),st 4 2 69,mi 3 11] [2,3]
 .ret)
 (aj [mv 71 4,bn 72 .lss 71 0,mv 70 72] [0,2,4,7,70]
 (.cond (.t 70) (.cU none [mv 73 7,mv 4 73] [0,2,4])
 (aj [mv 27 0,nc 28 27,fa 29 0 28,mv 30 4,i1 31 (.bin .mul (.c (.int .i64 16)) (.t 30)),mv 32 7,bt 33 .add 31 32,i1 34 (.dN .u8 (.t 33)),c2 35 259 29 34] [0,2]
 (.cU none [mi 4 (-1)] [0,2,4])))))))))))))
 (.goto 0))))))))
def mV:List bj:=[⟨2,false,some (4,true)⟩,⟨3,true,none⟩]
theorem wC:bG Go.Proofs.Tryz.prog 255 74 mV nt=true:=by kernel_rfl
theorem nz{s_0}{B0:Nat}{s:ab}{Q:List AV→ab→Prop}(hB0:s B0=some (.cells [dY 251 B0 0 s_0.Builder,dM s_0.Builder,.sl false 1 s_0.b_.length (flat s_0.b_),.int .i64 s_0.at_,.bool s_0.aE])):ok (eF s_0) (fun r=>Q [.agg [.int .i64 r.1.Kind,.int .i64 r.1.N,.str r.1.S.b,.sl false 4 r.1.L.length (flat r.1.L)],.int .i64 r.2.1] (s.set B0 (.cells [dY 251 B0 0 r.2.2.Builder,dM r.2.2.Builder,.sl false 1 r.2.2.b_.length (flat r.2.2.b_),.int .i64 r.2.2.at_,.bool r.2.2.aE])))→FN Go.Proofs.Tryz.prog 255 [.ref B0 0] s Q:=by
 have hS:s=(s.set B0 (.cells [dY 251 B0 0 s_0.Builder,dM s_0.Builder,.sl false 1 s_0.b_.length (flat s_0.b_),.int .i64 s_0.at_,.bool s_0.aE])):=by simp only[fu hB0]
 rw[hS]
 intro h
 refine FN.of (ay mix) wC rfl (Nat.le_of_ble_eq_true rfl) ?_
 revert h
 rw[nt,mV,eF]
 repeat'(first
  |with_reducible exact bI
  |with_reducible refine aU ?_ ?_
  |with_reducible exact aV
  |with_reducible refine bN ?_
  |with_reducible refine ak (fun _(h:aR o2=some _)=>bR (B0:=B0) (by simp -implicitDefEqProofs only[go_sem,seval]<;>simp only[aH]) h) (fun r6=>?_)
  |with_reducible refine ae (fun _(h:aR o2=some _)=>bR (B0:=B0) (by simp -implicitDefEqProofs only[go_sem,seval]<;>simp only[aH]) h) (fun _=>rfl) (fun r6=>?_)
  |with_reducible refine ak (fun _(h:bF o2=some _)=>cT (B0:=B0) (by simp -implicitDefEqProofs only[go_sem,seval]<;>simp only[aH]) h) (fun r7=>?_)
  |with_reducible refine ae (fun _(h:bF o2=some _)=>cT (B0:=B0) (by simp -implicitDefEqProofs only[go_sem,seval]<;>simp only[aH]) h) (fun _=>rfl) (fun r7=>?_)
  |with_reducible refine ak (fun _(h:dq r6.1=some _)=>di h) (fun r8=>?_)
  |with_reducible refine ae (fun _(h:dq r6.1=some _)=>di h) (fun _=>rfl) (fun r8=>?_)
  |with_reducible refine ak (fun _(h:dq r6.1=some _)=>(by refine al ?_ (di h);simp -implicitDefEqProofs only[go_sem,seval])) (fun r8=>?_)
  |with_reducible refine ae (fun _(h:dq r6.1=some _)=>(by refine al ?_ (di h);simp -implicitDefEqProofs only[go_sem,seval])) (fun _=>rfl) (fun r8=>?_)
  |with_reducible refine fun hh=>aI (B0:=B0) (preB0:=[]) (postB0:=[.sl false 1 o2.b_.length (flat o2.b_),.int .i64 (az (o2.at_+1)),.bool o2.aE]) (TB0:=251) (by simp -implicitDefEqProofs only[go_sem,seval]<;>simp only[aH]) (by first|rfl|simp) dF (aS (show ok (aw o2.Builder (nh (az (16*half1)))) _ from hh) fun r15=>?_)
  |with_reducible refine fun hh=>dw (by simp -implicitDefEqProofs only[go_sem,seval]) (aI (B0:=B0) (preB0:=[]) (postB0:=[.sl false 1 o2.b_.length (flat o2.b_),.int .i64 (az (o2.at_+1)),.bool o2.aE]) (TB0:=251) (by simp -implicitDefEqProofs only[go_sem,seval]<;>simp only[aH]) (by first|rfl|simp) dF (aS (show ok (aw o2.Builder (nh (az (16*half1)))) _ from hh) fun r15=>?_))
  |with_reducible refine fun hh=>cI (B0:=B0) (preB0:=[]) (postB0:=[.sl false 1 o2.b_.length (flat o2.b_),.int .i64 (az (o2.at_+1)),.bool o2.aE]) (TB0:=251) (by simp -implicitDefEqProofs only[go_sem,seval]<;>simp only[aH]) (by first|rfl|simp) dF (aS (show ok (aY r15.2) _ from hh) fun r16=>?_)
  |with_reducible refine fun hh=>dw (by simp -implicitDefEqProofs only[go_sem,seval]) (cI (B0:=B0) (preB0:=[]) (postB0:=[.sl false 1 o2.b_.length (flat o2.b_),.int .i64 (az (o2.at_+1)),.bool o2.aE]) (TB0:=251) (by simp -implicitDefEqProofs only[go_sem,seval]<;>simp only[aH]) (by first|rfl|simp) dF (aS (show ok (aY r15.2) _ from hh) fun r16=>?_))
  |with_reducible refine fun hh=>cI (B0:=B0) (preB0:=[]) (postB0:=[.sl false 1 o2.b_.length (flat o2.b_),.int .i64 (az (o2.at_+1)),.bool o2.aE]) (TB0:=251) (by simp -implicitDefEqProofs only[go_sem,seval]<;>simp only[aH]) (by first|rfl|simp) dF (aS (show ok (aY o2.Builder) _ from hh) fun r17=>?_)
  |with_reducible refine fun hh=>dw (by simp -implicitDefEqProofs only[go_sem,seval]) (cI (B0:=B0) (preB0:=[]) (postB0:=[.sl false 1 o2.b_.length (flat o2.b_),.int .i64 (az (o2.at_+1)),.bool o2.aE]) (TB0:=251) (by simp -implicitDefEqProofs only[go_sem,seval]<;>simp only[aH]) (by first|rfl|simp) dF (aS (show ok (aY o2.Builder) _ from hh) fun r17=>?_))
  |with_reducible refine ak (fun _(h:cS r6.1=some _)=>cK h) (fun r18=>?_)
  |with_reducible refine ae (fun _(h:cS r6.1=some _)=>cK h) (fun _=>rfl) (fun r18=>?_)
  |with_reducible refine ak (fun _(h:cS r6.1=some _)=>(by refine al ?_ (cK h);simp -implicitDefEqProofs only[go_sem,seval])) (fun r18=>?_)
  |with_reducible refine ae (fun _(h:cS r6.1=some _)=>(by refine al ?_ (cK h);simp -implicitDefEqProofs only[go_sem,seval])) (fun _=>rfl) (fun r18=>?_)
  |with_reducible refine fun hh=>aI (B0:=B0) (preB0:=[]) (postB0:=[.sl false 1 o2.b_.length (flat o2.b_),.int .i64 (az (o2.at_+1)),.bool o2.aE]) (TB0:=251) (by simp -implicitDefEqProofs only[go_sem,seval]<;>simp only[aH]) (by first|rfl|simp) dF (aS (show ok (aw o2.Builder (nh (az ((az (16*half1))+r8)))) _ from hh) fun r19=>?_)
  |with_reducible refine fun hh=>dw (by simp -implicitDefEqProofs only[go_sem,seval]) (aI (B0:=B0) (preB0:=[]) (postB0:=[.sl false 1 o2.b_.length (flat o2.b_),.int .i64 (az (o2.at_+1)),.bool o2.aE]) (TB0:=251) (by simp -implicitDefEqProofs only[go_sem,seval]<;>simp only[aH]) (by first|rfl|simp) dF (aS (show ok (aw o2.Builder (nh (az ((az (16*half1))+r8)))) _ from hh) fun r19=>?_))
  |((with_reducible refine dh (fun((half10,o11):Int×ao)=>⟨[(0,.ref B0 0),(2,.loc [.int .i64 0,.int .i64 0,.str (aL.mk []).b,.sl true 4 0 []]),(4,.int .i64 half10)],[],(s.set B0 (.cells [dY 251 B0 0 o11.Builder,dM o11.Builder,.sl false 1 o11.b_.length (flat o11.b_),.int .i64 o11.at_,.bool o11.aE]))⟩) (fun J=>?_) ?_);rotate_left;rintro⟨half10,o11⟩)
  |((with_reducible refine Ka (fun((half1,o2):Int×ao)=>⟨[(0,.ref B0 0),(2,.loc [.int .i64 0,.int .i64 0,.str (aL.mk []).b,.sl true 4 0 []]),(4,.int .i64 half1)],[],(s.set B0 (.cells [dY 251 B0 0 o2.Builder,dM o2.Builder,.sl false 1 o2.b_.length (flat o2.b_),.int .i64 o2.at_,.bool o2.aE]))⟩) ?_ ?_);(first|exact rfl|simp -implicitDefEqProofs only[go_sem,seval]);rintro J ⟨half1,o2⟩)
  |simp -implicitDefEqProofs only[go_sem,seval])
def fh(s_0:ao):Option (aF×Int×ao):=
 cj (aR s_0) fun r1=>
 if !r1.2 then
  cj (bF s_0) fun r2=>
  some ((aF.mk 0 0 0 (aa.mk 0 0 (aL.mk []) ([]:List aa)) (aL.mk [])),r2,s_0)
 else
  if(r1.1.toNat:Int)==60 then
   some ((aF.mk 4 0 0 (aa.mk 0 0 (aL.mk []) ([]:List aa)) (aL.mk [])),0,(ao.mk s_0.Builder s_0.b_ (az (s_0.at_+1)) s_0.aE))
  else
   cj (eF s_0) fun r3=>
   some ((aF.mk 1 0 0 r3.1 (aL.mk [])),r3.2.1,r3.2.2)
def lH:IC:=
 (aj [i1 2 (.aQ jY),mi 3 0] [0,2]
 (aj [mv 9 0,c1 10 253 9,lj 8 10,ex 11 8 0,ex 12 8 1,mv 4 11,mv 5 12] [0,2,4,5]
 (.seq (aj [mv 13 5,no 14 13] [0,2,4,14]
 (.cond (.t 14) (aj [i1 15 (.build jY []),mv 16 0,c1 17 254 16,st 8 2 15,mv 3 17] [2,3]
 .ret)
 .skip))
 (.seq (aj [mv 18 4,bu 19 .eql 18 60] [0,2,19]
 (.cond (.t 19) (aj [mv 20 0,nc 21 20,fa 22 3 21,i1 23 (.bW oz false (.t 22)),bn 24 .add 23 1,nc 25 20,fa 26 3 25,st 1 26 24] [2]
 (aj [i1 27 (.build jY [(0,1,(.c (.int .i64 4)))]),st 8 2 27,mi 3 0] [2,3]
 .ret))
 .skip))
 (aj [mv 29 0,c1 30 255 29,lj 28 30,ex 31 28 0,ex 32 28 1,i1 6 (.aQ iC),st 4 6 31,mv 7 32] [2,6,7]
 (aj [lm 33 4 6,i1 34 (.build jY [(0,1,(.c (.int .i64 1))),(3,4,(.t 33))]),mv 35 7,st 8 2 34,mv 3 35] [2,3]
 .ret))))))
def ln:List bj:=[⟨2,false,some (8,true)⟩,⟨3,true,none⟩]
theorem tG:bG Go.Proofs.Tryz.prog 217 36 ln lH=true:=by kernel_rfl
theorem lL{s_0}{B0:Nat}{s:ab}{Q:List AV→ab→Prop}(hB0:s B0=some (.cells [dY 251 B0 0 s_0.Builder,dM s_0.Builder,.sl false 1 s_0.b_.length (flat s_0.b_),.int .i64 s_0.at_,.bool s_0.aE])):ok (fh s_0) (fun r=>Q [.agg [.int .i64 r.1.Kind,.int .i64 r.1.bP,.int .i64 r.1.To,.int .i64 r.1.V.Kind,.int .i64 r.1.V.N,.str r.1.V.S.b,.sl false 4 r.1.V.L.length (flat r.1.V.L),.str r.1.S.b],.int .i64 r.2.1] (s.set B0 (.cells [dY 251 B0 0 r.2.2.Builder,dM r.2.2.Builder,.sl false 1 r.2.2.b_.length (flat r.2.2.b_),.int .i64 r.2.2.at_,.bool r.2.2.aE])))→FN Go.Proofs.Tryz.prog 217 [.ref B0 0] s Q:=by
 have hS:s=(s.set B0 (.cells [dY 251 B0 0 s_0.Builder,dM s_0.Builder,.sl false 1 s_0.b_.length (flat s_0.b_),.int .i64 s_0.at_,.bool s_0.aE])):=by simp only[fu hB0]
 rw[hS]
 intro h
 refine FN.of (ay mix) tG rfl (Nat.le_of_ble_eq_true rfl) ?_
 revert h
 rw[lH,ln,fh]
 repeat'(first
  |with_reducible exact bI
  |with_reducible refine aU ?_ ?_
  |with_reducible exact aV
  |with_reducible refine bN ?_
  |with_reducible refine ak (fun _(h:aR s_0=some _)=>bR (B0:=B0) (by simp -implicitDefEqProofs only[go_sem,seval]<;>simp only[aH]) h) (fun r1=>?_)
  |with_reducible refine ae (fun _(h:aR s_0=some _)=>bR (B0:=B0) (by simp -implicitDefEqProofs only[go_sem,seval]<;>simp only[aH]) h) (fun _=>rfl) (fun r1=>?_)
  |with_reducible refine ak (fun _(h:bF s_0=some _)=>cT (B0:=B0) (by simp -implicitDefEqProofs only[go_sem,seval]<;>simp only[aH]) h) (fun r2=>?_)
  |with_reducible refine ae (fun _(h:bF s_0=some _)=>cT (B0:=B0) (by simp -implicitDefEqProofs only[go_sem,seval]<;>simp only[aH]) h) (fun _=>rfl) (fun r2=>?_)
  |with_reducible refine fun hh=>nz (B0:=B0) (by simp -implicitDefEqProofs only[go_sem,seval]<;>simp only[aH]) (aS (show ok (eF s_0) _ from hh) fun r3=>?_)
  |with_reducible refine fun hh=>dw (by simp -implicitDefEqProofs only[go_sem,seval]) (nz (B0:=B0) (by simp -implicitDefEqProofs only[go_sem,seval]<;>simp only[aH]) (aS (show ok (eF s_0) _ from hh) fun r3=>?_))
  |simp -implicitDefEqProofs only[go_sem,seval])
def ff(s_0:ao):Option (aF×Int×ao):=
 cj (aR s_0) fun r1=>
 if(!r1.2)&&(!s_0.aE)then
  some ((aF.mk 0 0 0 (aa.mk 0 0 (aL.mk []) ([]:List aa)) (aL.mk [])),6,s_0)
 else
  if(!r1.2)||((r1.1.toNat:Int)!=62)then
   some ((aF.mk 0 0 0 (aa.mk 0 0 (aL.mk []) ([]:List aa)) (aL.mk [])),11,s_0)
  else
   some ((aF.mk 5 0 0 (aa.mk 0 0 (aL.mk []) ([]:List aa)) (aL.mk [])),0,(ao.mk s_0.Builder s_0.b_ (az (s_0.at_+1)) s_0.aE))
def lG:IC:=
 (aj [i1 2 (.aQ jY),mi 3 0] [0,2]
 (aj [mv 7 0,c1 8 253 7,lj 6 8,ex 9 6 0,ex 10 6 1,mv 4 9,mv 5 10] [0,2,4,5]
 (.seq (.block 0 (aj [mv 12 5,no 13 12,mv 14 13,b6 15 0 14 true,cQ 16 14 true (.nilCheck (.t 15)),fg 17 14 true 4 16,cQ 18 14 true (.bW [.bool false] false (.t 17)),cQ 19 14 true (.un .not (.t 18)),pf 20 14 19,mv 11 20] [0,2,4,5,11]
 (.cond (.t 11) (aj [i1 21 (.build jY []),st 8 2 21,mi 3 6] [2,3]
 .ret)
 (aj [mv 23 5,no 24 23,mv 25 24,b6 26 4 25 false,cQ 27 25 false (.bin .neq (.t 26) (.c (.int .u8 62))),po 28 25 27,mv 22 28] [0,2,22]
 (.cond (.t 22) (aj [i1 29 (.build jY []),st 8 2 29,mi 3 11] [2,3]
 .ret)
 .skip)))))
 (aj [mv 30 0,nc 31 30,fa 32 3 31,i1 33 (.bW oz false (.t 32)),bn 34 .add 33 1,nc 35 30,fa 36 3 35,st 1 36 34] [2]
 (aj [i1 37 (.build jY [(0,1,(.c (.int .i64 5)))]),st 8 2 37,mi 3 0] [2,3]
 .ret)))))
def ll:List bj:=[⟨2,false,some (8,true)⟩,⟨3,true,none⟩]
theorem tF:bG Go.Proofs.Tryz.prog 218 38 ll lG=true:=by kernel_rfl
theorem lK{s_0}{B0:Nat}{s:ab}{Q:List AV→ab→Prop}(hB0:s B0=some (.cells [dY 251 B0 0 s_0.Builder,dM s_0.Builder,.sl false 1 s_0.b_.length (flat s_0.b_),.int .i64 s_0.at_,.bool s_0.aE])):ok (ff s_0) (fun r=>Q [.agg [.int .i64 r.1.Kind,.int .i64 r.1.bP,.int .i64 r.1.To,.int .i64 r.1.V.Kind,.int .i64 r.1.V.N,.str r.1.V.S.b,.sl false 4 r.1.V.L.length (flat r.1.V.L),.str r.1.S.b],.int .i64 r.2.1] (s.set B0 (.cells [dY 251 B0 0 r.2.2.Builder,dM r.2.2.Builder,.sl false 1 r.2.2.b_.length (flat r.2.2.b_),.int .i64 r.2.2.at_,.bool r.2.2.aE])))→FN Go.Proofs.Tryz.prog 218 [.ref B0 0] s Q:=by
 have hS:s=(s.set B0 (.cells [dY 251 B0 0 s_0.Builder,dM s_0.Builder,.sl false 1 s_0.b_.length (flat s_0.b_),.int .i64 s_0.at_,.bool s_0.aE])):=by simp only[fu hB0]
 rw[hS]
 intro h
 refine FN.of (ay mix) tF rfl (Nat.le_of_ble_eq_true rfl) ?_
 revert h
 rw[lG,ll,ff]
 repeat'(first
  |with_reducible exact bI
  |with_reducible refine aU ?_ ?_
  |with_reducible exact aV
  |with_reducible refine bN ?_
  |with_reducible refine ak (fun _(h:aR s_0=some _)=>bR (B0:=B0) (by simp -implicitDefEqProofs only[go_sem,seval]<;>simp only[aH]) h) (fun r1=>?_)
  |with_reducible refine ae (fun _(h:aR s_0=some _)=>bR (B0:=B0) (by simp -implicitDefEqProofs only[go_sem,seval]<;>simp only[aH]) h) (fun _=>rfl) (fun r1=>?_)
  |simp -implicitDefEqProofs only[go_sem,seval])
def eG(s_0:ao)(c_1:UInt8):Option (Bool×ao):=
 xR (
  oD (
   iter (fun((n5,k6,o7):Int×Int×ao)=>
    if decide (k6<2)then
     cj (aR o7) fun r12=>
     if !r12.2 then
      if o7.aE then
       cj (aw o7.Builder (nh (n5))) fun r13=>
       some (.inr (.inr (o7.aE||false,(ao.mk r13.2 o7.b_ o7.at_ o7.aE))))
      else
       some (.inr (.inr (o7.aE||false,o7)))
     else
      if(decide ((r12.1.toNat:Int)<48))||(decide ((r12.1.toNat:Int)>55))then
       some (.inr (.inl (n5,o7)))
      else
       some (.inl (az ((az (8*n5))+(az (((nh ((r12.1.toNat:Int) -48)).toNat:Int)))),az (k6+1),(ao.mk o7.Builder o7.b_ (az (o7.at_+1)) o7.aE)))
    else
     some (.inr (.inl (n5,o7)))) (az (((nh ((c_1.toNat:Int) -48)).toNat:Int)),0,s_0)) (fun((n8,o9):Int×ao)=>
   some (.inl (n8,o9)))
  (fun((t10,o11):Bool×ao)=>some (.inr (t10,o11)))) (fun((n1,o2):Int×ao)=>
  cj (aw o2.Builder (nh (n1))) fun r14=>
  some (true,(ao.mk r14.2 o2.b_ o2.at_ o2.aE)))
 (fun((t3,o4):Bool×ao)=>some (t3,o4))
def nu:IC:=
 (aj [dT 4 (.bool false)] [0,1]
 (aj [mv 9 1,bu 10 .sub 9 48,i1 11 (.dN .i64 (.t 10)),mv 5 11] [0,5]
 (.join [(0,false),(5,false)] (aj [mi 6 0] [0,5,6]
 (.block 0 (.loop [(0,false),(5,false),(6,false)] (.seq (aj [mv 12 6,bn 13 .lss 12 2] [0,5,6,13]
 (.cond (.t 13) .skip
 (.exit 0)))
 (.seq (.block 1 (aj [mv 17 0,c1 18 253 17,lj 16 18,ex 19 16 0,ex 20 16 1,mv 7 19,mv 8 20] [0,5,6,7,8]
 (.seq (aj [mv 21 8,no 22 21] [0,5,6,7,22]
 (.cond (.t 22) (aj [mv 23 0,nc 24 23,fa 25 4 24,i1 26 (.bW [.bool false] false (.t 25)),mv 27 26,b6 28 0 27 true,cQ 29 27 true (.nilCheck (.t 28)),fg 30 27 true 0 29,b6 31 5 27 true,cQ 32 27 true (.dN .u8 (.t 31)),Zn 33 27 true 259 30 32,cQ 34 27 true (.Ol false (.t 33)),pf 35 27 34,mv 4 35] [4]
 .ret)
 .skip))
 (.seq (aj [mv 36 7,bu 37 .lss 36 48,mv 38 37,b6 39 7 38 false,cQ 40 38 false (.bin .gtr (.t 39) (.c (.int .u8 55))),po 41 38 40] [0,5,6,7,41]
 (.cond (.t 41) (.exit 0)
 .skip))
 (aj [mv 42 5,i1 43 (.bin .mul (.c (.int .i64 8)) (.t 42)),mv 44 7,bu 45 .sub 44 48,i1 46 (.dN .i64 (.t 45)),bt 47 .add 43 46,mv 5 47] [0,5,6]
 (.cU none [mv 48 0,nc 49 48,fa 50 3 49,i1 51 (.bW oz false (.t 50)),bn 52 .add 51 1,nc 53 48,fa 54 3 53,st 1 54 52] [0,5,6]))))))
 (.cU none [mv 14 6,bn 15 .add 14 1,mv 6 15] [0,5,6]))))))
 (aj [mv 55 0,nc 56 55,fa 57 0 56,mv 58 5,i1 59 (.dN .u8 (.t 58)),c2 60 259 57 59,i1 61 (.Ol false (.t 60)),mv 4 61] [4]
 .ret))))
def mW:List bj:=[⟨4,true,none⟩]
theorem wD:bG Go.Proofs.Tryz.prog 294 62 mW nu=true:=by kernel_rfl
theorem nA{s_0 c_1}{B0:Nat}{s:ab}{Q:List AV→ab→Prop}(hB0:s B0=some (.cells [dY 251 B0 0 s_0.Builder,dM s_0.Builder,.sl false 1 s_0.b_.length (flat s_0.b_),.int .i64 s_0.at_,.bool s_0.aE])):ok (eG s_0 c_1) (fun r=>Q [.bool r.1] (s.set B0 (.cells [dY 251 B0 0 r.2.Builder,dM r.2.Builder,.sl false 1 r.2.b_.length (flat r.2.b_),.int .i64 r.2.at_,.bool r.2.aE])))→FN Go.Proofs.Tryz.prog 294 [.ref B0 0,.int .u8 c_1.toNat] s Q:=by
 have hS:s=(s.set B0 (.cells [dY 251 B0 0 s_0.Builder,dM s_0.Builder,.sl false 1 s_0.b_.length (flat s_0.b_),.int .i64 s_0.at_,.bool s_0.aE])):=by simp only[fu hB0]
 rw[hS]
 intro h
 refine FN.of (ay mix) wD rfl (Nat.le_of_ble_eq_true rfl) ?_
 revert h
 rw[nu,mW,eG]
 repeat'(first
  |((fail_if_success (have _x:=hgG0));(have _x:=o3.aE);clear _x;cases hgG0:o3.aE)
  |((fail_if_success (have _x:=hgG1));(have _x:=o7.aE);clear _x;cases hgG1:o7.aE)
  |((fail_if_success (have _x:=hgG2));(have _x:=x__B0.aE);clear _x;cases hgG2:x__B0.aE)
  |with_reducible exact bI
  |with_reducible refine aU ?_ ?_
  |with_reducible exact aV
  |with_reducible refine bN ?_
  |with_reducible refine ak (fun _(h:aR o7=some _)=>bR (B0:=B0) (by first|(simp -implicitDefEqProofs only[go_sem,seval,hgG0];done)|(simp -implicitDefEqProofs only[go_sem,seval,hgG1];done)|(simp -implicitDefEqProofs only[go_sem,seval,hgG2];done)|(simp -implicitDefEqProofs only[go_sem,seval];done)) h) (fun r12=>?_)
  |with_reducible refine ae (fun _(h:aR o7=some _)=>bR (B0:=B0) (by first|(simp -implicitDefEqProofs only[go_sem,seval,hgG0];done)|(simp -implicitDefEqProofs only[go_sem,seval,hgG1];done)|(simp -implicitDefEqProofs only[go_sem,seval,hgG2];done)|(simp -implicitDefEqProofs only[go_sem,seval];done)) h) (fun _=>rfl) (fun r12=>?_)
  |with_reducible refine fun hh=>aI (B0:=B0) (preB0:=[]) (postB0:=[.sl false 1 o7.b_.length (flat o7.b_),.int .i64 o7.at_,.bool o7.aE]) (TB0:=251) (by first|(simp -implicitDefEqProofs only[go_sem,seval,hgG0];done)|(simp -implicitDefEqProofs only[go_sem,seval,hgG1];done)|(simp -implicitDefEqProofs only[go_sem,seval,hgG2];done)|(simp -implicitDefEqProofs only[go_sem,seval];done)) (by first|rfl|simp) dF (aS (show ok (aw o7.Builder (nh (n5))) _ from hh) fun r13=>?_)
  |with_reducible refine fun hh=>dw (by simp -implicitDefEqProofs only[go_sem,seval]) (aI (B0:=B0) (preB0:=[]) (postB0:=[.sl false 1 o7.b_.length (flat o7.b_),.int .i64 o7.at_,.bool o7.aE]) (TB0:=251) (by first|(simp -implicitDefEqProofs only[go_sem,seval,hgG0];done)|(simp -implicitDefEqProofs only[go_sem,seval,hgG1];done)|(simp -implicitDefEqProofs only[go_sem,seval,hgG2];done)|(simp -implicitDefEqProofs only[go_sem,seval];done)) (by first|rfl|simp) dF (aS (show ok (aw o7.Builder (nh (n5))) _ from hh) fun r13=>?_))
  |with_reducible refine fun hh=>aI (B0:=B0) (preB0:=[]) (postB0:=[.sl false 1 o2.b_.length (flat o2.b_),.int .i64 o2.at_,.bool o2.aE]) (TB0:=251) (by first|(simp -implicitDefEqProofs only[go_sem,seval,hgG0];done)|(simp -implicitDefEqProofs only[go_sem,seval,hgG1];done)|(simp -implicitDefEqProofs only[go_sem,seval,hgG2];done)|(simp -implicitDefEqProofs only[go_sem,seval];done)) (by first|rfl|simp) dF (aS (show ok (aw o2.Builder (nh (n1))) _ from hh) fun r14=>?_)
  |with_reducible refine fun hh=>dw (by simp -implicitDefEqProofs only[go_sem,seval]) (aI (B0:=B0) (preB0:=[]) (postB0:=[.sl false 1 o2.b_.length (flat o2.b_),.int .i64 o2.at_,.bool o2.aE]) (TB0:=251) (by first|(simp -implicitDefEqProofs only[go_sem,seval,hgG0];done)|(simp -implicitDefEqProofs only[go_sem,seval,hgG1];done)|(simp -implicitDefEqProofs only[go_sem,seval,hgG2];done)|(simp -implicitDefEqProofs only[go_sem,seval];done)) (by first|rfl|simp) dF (aS (show ok (aw o2.Builder (nh (n1))) _ from hh) fun r14=>?_))
  |((with_reducible refine dp (fun((n5,k6,o7):Int×Int×ao)=>⟨[(0,.ref B0 0),(5,.int .i64 n5),(6,.int .i64 k6)],[],(s.set B0 (.cells [dY 251 B0 0 o7.Builder,dM o7.Builder,.sl false 1 o7.b_.length (flat o7.b_),.int .i64 o7.at_,.bool o7.aE]))⟩) ?_ ?_);(first|exact rfl|simp -implicitDefEqProofs only[go_sem,seval]);rintro J ⟨n5,k6,o7⟩)
  |((with_reducible refine dh (fun((n1,o2):Int×ao)=>⟨[(0,.ref B0 0),(5,.int .i64 n1)],[],(s.set B0 (.cells [dY 251 B0 0 o2.Builder,dM o2.Builder,.sl false 1 o2.b_.length (flat o2.b_),.int .i64 o2.at_,.bool o2.aE]))⟩) (fun J=>?_) ?_);rotate_left;rintro⟨n1,o2⟩)
  |simp -implicitDefEqProofs only[go_sem,seval,hgG0,Bool.false_eq_true,if_false,if_true,Bool.true_eq_false,false_implies,true_implies,true_and,and_true]
  |simp -implicitDefEqProofs only[go_sem,seval,hgG1,Bool.false_eq_true,if_false,if_true,Bool.true_eq_false,false_implies,true_implies,true_and,and_true]
  |simp -implicitDefEqProofs only[go_sem,seval,hgG2,Bool.false_eq_true,if_false,if_true,Bool.true_eq_false,false_implies,true_implies,true_and,and_true]
  |simp -implicitDefEqProofs only[go_sem,seval])
def cq(s_0:ao)(c_1:UInt8):Option (Bool×ao):=
 if(c_1.toNat:Int)!=13 then
  some (true,s_0)
 else
  cj (aR s_0) fun r1=>
  jn (
   if r1.2&&((r1.1.toNat:Int)==10)then
    some (ao.mk s_0.Builder s_0.b_ (az (s_0.at_+1)) s_0.aE)
   else
    some s_0) fun(o3:ao)=>
  some (r1.2||o3.aE,o3)
def oI:IC:=
 (aj [dT 4 (.bool false)] [0,1]
 (.seq (aj [mv 7 1,bu 8 .neq 7 13] [0,8]
 (.cond (.t 8) (aj [dT 4 (.bool true)] [4]
 .ret)
 .skip))
 (aj [mv 10 0,c1 11 253 10,lj 9 11,ex 12 9 0,ex 13 9 1,mv 5 12,mv 6 13] [0,5,6]
 (.join [(0,false),(6,false)] (aj [mv 14 6,mv 15 14,b6 16 5 15 true,cQ 17 15 true (.bin .eql (.t 16) (.c (.int .u8 10))),pf 18 15 17] [0,6,18]
 (.cond (.t 18) (.cU none [mv 19 0,nc 20 19,fa 21 3 20,i1 22 (.bW oz false (.t 21)),bn 23 .add 22 1,nc 24 19,fa 25 3 24,st 1 25 23] [0,6])
 .skip))
 (aj [mv 26 6,mv 27 26,b6 28 0 27 false,cQ 29 27 false (.nilCheck (.t 28)),fg 30 27 false 4 29,cQ 31 27 false (.bW [.bool false] false (.t 30)),po 32 27 31,mv 4 32] [4]
 .ret)))))
def nH:List bj:=[⟨4,true,none⟩]
theorem xI:bG Go.Proofs.Tryz.prog 257 33 nH oI=true:=by kernel_rfl
theorem ir{s_0 c_1}{B0:Nat}{s:ab}{Q:List AV→ab→Prop}(hB0:s B0=some (.cells [dY 251 B0 0 s_0.Builder,dM s_0.Builder,.sl false 1 s_0.b_.length (flat s_0.b_),.int .i64 s_0.at_,.bool s_0.aE])):ok (cq s_0 c_1) (fun r=>Q [.bool r.1] (s.set B0 (.cells [dY 251 B0 0 r.2.Builder,dM r.2.Builder,.sl false 1 r.2.b_.length (flat r.2.b_),.int .i64 r.2.at_,.bool r.2.aE])))→FN Go.Proofs.Tryz.prog 257 [.ref B0 0,.int .u8 c_1.toNat] s Q:=by
 have hS:s=(s.set B0 (.cells [dY 251 B0 0 s_0.Builder,dM s_0.Builder,.sl false 1 s_0.b_.length (flat s_0.b_),.int .i64 s_0.at_,.bool s_0.aE])):=by simp only[fu hB0]
 rw[hS]
 intro h
 refine FN.of (ay mix) xI rfl (Nat.le_of_ble_eq_true rfl) ?_
 revert h
 rw[oI,nH,cq]
 repeat'(first
  |with_reducible exact bI
  |with_reducible refine aU ?_ ?_
  |with_reducible exact aV
  |with_reducible refine bN ?_
  |with_reducible refine ak (fun _(h:aR s_0=some _)=>bR (B0:=B0) (by simp -implicitDefEqProofs only[go_sem,seval]<;>simp only[aH]) h) (fun r1=>?_)
  |with_reducible refine ae (fun _(h:aR s_0=some _)=>bR (B0:=B0) (by simp -implicitDefEqProofs only[go_sem,seval]<;>simp only[aH]) h) (fun _=>rfl) (fun r1=>?_)
  |((with_reducible refine ft (fun(o3:ao)=>⟨[(0,.ref B0 0),(6,.bool r1.2)],[],(s.set B0 (.cells [dY 251 B0 0 o3.Builder,dM o3.Builder,.sl false 1 o3.b_.length (flat o3.b_),.int .i64 o3.at_,.bool o3.aE]))⟩) (fun J=>?_) ?_);rotate_left;rintro o3)
  |simp -implicitDefEqProofs only[go_sem,seval])
def b8(s_0:ao):Option (Bool×ao):=
 cj (aR s_0) fun r1=>
 if !r1.2 then
  some (false,s_0)
 else
  cj (bC (aL.mk [110,114,116,98,102]) r1.1) fun r2=>
  if decide (r2≥0)then
   bq (0≤r2∧r2<(aL.mk [10,13,9,8,12]).b.length)<|
   cj (aw s_0.Builder (ix (aL.mk [10,13,9,8,12]).b r2)) fun r3=>
   some (true,(ao.mk r3.2 s_0.b_ (az (s_0.at_+1)) s_0.aE))
  else
   if(decide ((r1.1.toNat:Int)≥48))&&(decide ((r1.1.toNat:Int)≤55))then
    cj (eG (ao.mk s_0.Builder s_0.b_ (az (s_0.at_+1)) s_0.aE) r1.1) fun r4=>
    some (r4.1,r4.2)
   else
    if((r1.1.toNat:Int)==10)||((r1.1.toNat:Int)==13)then
     cj (cq (ao.mk s_0.Builder s_0.b_ (az (s_0.at_+1)) s_0.aE) r1.1) fun r5=>
     some (r5.1,r5.2)
    else
     cj (aw s_0.Builder r1.1) fun r6=>
     some (true,(ao.mk r6.2 s_0.b_ (az (s_0.at_+1)) s_0.aE))
def mJ:IC:=
 (aj [dT 2 (.bool false)] [0]
 (aj [mv 7 0,c1 8 253 7,lj 6 8,ex 9 6 0,ex 10 6 1,mv 3 9,mv 4 10] [0,3,4]
 (.seq (aj [mv 11 4,no 12 11] [0,3,12]
 (.cond (.t 12) (aj [dT 2 (.bool false)] [2]
 .ret)
 .skip))
 (aj [mv 13 0,nc 14 13,fa 15 3 14,i1 16 (.bW oz false (.t 15)),bn 17 .add 16 1,nc 18 13,fa 19 3 18,st 1 19 17] [0,3]
 (.seq (aj [mv 20 3,i1 21 (.call 122 [(.c (.str [110,114,116,98,102])),(.t 20)]),mv 5 21] [0,3,5]
 (aj [mv 22 5,bn 23 .geq 22 0] [0,3,5,23]
 (.cond (.t 23) (.seq (.FI [] [(0,0,mv 24 0),(0,1,nc 25 24),(0,2,fa 26 0 25),(0,3,mv 27 5),(0,4,i1 28 (.dJ (.c (.str [10,13,9,8,12])) (.t 27))),(2,5,c2 29 259 26 28)] [])
 (aj [dT 2 (.bool true)] [2]
 .ret))
 .skip)))
 (.seq (.block 0 (aj [mv 31 3,bu 32 .geq 31 48,mv 33 32,b6 34 3 33 true,cQ 35 33 true (.bin .leq (.t 34) (.c (.int .u8 55))),pf 36 33 35,mv 30 36] [0,3,30]
 (.cond (.t 30) (aj [mv 37 0,mv 38 3,c2 39 294 37 38,mv 2 39] [2]
 .ret)
 (aj [mv 41 3,bu 42 .eql 41 10,mv 43 42,b6 44 3 43 false,cQ 45 43 false (.bin .eql (.t 44) (.c (.int .u8 13))),po 46 43 45,mv 40 46] [0,3,40]
 (.cond (.t 40) (aj [mv 47 0,mv 48 3,c2 49 257 47 48,mv 2 49] [2]
 .ret)
 .skip)))))
 (aj [mv 50 0,nc 51 50,fa 52 0 51,mv 53 3,c2 54 259 52 53] []
 (aj [dT 2 (.bool true)] [2]
 .ret))))))))
def lQ:List bj:=[⟨2,true,none⟩]
theorem uZ:bG Go.Proofs.Tryz.prog 256 55 lQ mJ=true:=by kernel_rfl
theorem mP{s_0}{B0:Nat}{s:ab}{Q:List AV→ab→Prop}(hB0:s B0=some (.cells [dY 251 B0 0 s_0.Builder,dM s_0.Builder,.sl false 1 s_0.b_.length (flat s_0.b_),.int .i64 s_0.at_,.bool s_0.aE])):ok (b8 s_0) (fun r=>Q [.bool r.1] (s.set B0 (.cells [dY 251 B0 0 r.2.Builder,dM r.2.Builder,.sl false 1 r.2.b_.length (flat r.2.b_),.int .i64 r.2.at_,.bool r.2.aE])))→FN Go.Proofs.Tryz.prog 256 [.ref B0 0] s Q:=by
 have hS:s=(s.set B0 (.cells [dY 251 B0 0 s_0.Builder,dM s_0.Builder,.sl false 1 s_0.b_.length (flat s_0.b_),.int .i64 s_0.at_,.bool s_0.aE])):=by simp only[fu hB0]
 rw[hS]
 intro h
 refine FN.of (ay mix) uZ rfl (Nat.le_of_ble_eq_true rfl) ?_
 revert h
 rw[mJ,lQ,b8]
 repeat'(first
  |with_reducible exact bI
  |((with_reducible refine L9 ?_ ?_);exact rfl)
  |((with_reducible refine M7 ?_ ?_);exact rfl)
  |with_reducible refine aU ?_ ?_
  |with_reducible exact aV
  |with_reducible refine bN ?_
  |with_reducible refine ak (fun _(h:aR s_0=some _)=>bR (B0:=B0) (by simp -implicitDefEqProofs only[go_sem,seval]<;>simp only[aH]) h) (fun r1=>?_)
  |with_reducible refine ae (fun _(h:aR s_0=some _)=>bR (B0:=B0) (by simp -implicitDefEqProofs only[go_sem,seval]<;>simp only[aH]) h) (fun _=>rfl) (fun r1=>?_)
  |with_reducible refine ak (fun _(h:bC (aL.mk [110,114,116,98,102]) r1.1=some _)=>cH h) (fun r2=>?_)
  |with_reducible refine ae (fun _(h:bC (aL.mk [110,114,116,98,102]) r1.1=some _)=>cH h) (fun _=>rfl) (fun r2=>?_)
  |with_reducible refine ak (fun _(h:bC (aL.mk [110,114,116,98,102]) r1.1=some _)=>(by refine al ?_ (cH h);simp -implicitDefEqProofs only[go_sem,seval])) (fun r2=>?_)
  |with_reducible refine ae (fun _(h:bC (aL.mk [110,114,116,98,102]) r1.1=some _)=>(by refine al ?_ (cH h);simp -implicitDefEqProofs only[go_sem,seval])) (fun _=>rfl) (fun r2=>?_)
  |with_reducible refine fun hh=>aI (B0:=B0) (preB0:=[]) (postB0:=[.sl false 1 s_0.b_.length (flat s_0.b_),.int .i64 (az (s_0.at_+1)),.bool s_0.aE]) (TB0:=251) (by simp -implicitDefEqProofs only[go_sem,seval]<;>simp only[aH]) (by first|rfl|simp) dF (aS (show ok (aw s_0.Builder (ix (aL.mk [10,13,9,8,12]).b r2)) _ from hh) fun r3=>?_)
  |with_reducible refine fun hh=>dw (by simp -implicitDefEqProofs only[go_sem,seval]) (aI (B0:=B0) (preB0:=[]) (postB0:=[.sl false 1 s_0.b_.length (flat s_0.b_),.int .i64 (az (s_0.at_+1)),.bool s_0.aE]) (TB0:=251) (by simp -implicitDefEqProofs only[go_sem,seval]<;>simp only[aH]) (by first|rfl|simp) dF (aS (show ok (aw s_0.Builder (ix (aL.mk [10,13,9,8,12]).b r2)) _ from hh) fun r3=>?_))
  |with_reducible refine fun hh=>nA (B0:=B0) (by simp -implicitDefEqProofs only[go_sem,seval]<;>simp only[aH]) (aS (show ok (eG (ao.mk s_0.Builder s_0.b_ (az (s_0.at_+1)) s_0.aE) r1.1) _ from hh) fun r4=>?_)
  |with_reducible refine fun hh=>dw (by simp -implicitDefEqProofs only[go_sem,seval]) (nA (B0:=B0) (by simp -implicitDefEqProofs only[go_sem,seval]<;>simp only[aH]) (aS (show ok (eG (ao.mk s_0.Builder s_0.b_ (az (s_0.at_+1)) s_0.aE) r1.1) _ from hh) fun r4=>?_))
  |with_reducible refine fun hh=>ir (B0:=B0) (by simp -implicitDefEqProofs only[go_sem,seval]<;>simp only[aH]) (aS (show ok (cq (ao.mk s_0.Builder s_0.b_ (az (s_0.at_+1)) s_0.aE) r1.1) _ from hh) fun r5=>?_)
  |with_reducible refine fun hh=>dw (by simp -implicitDefEqProofs only[go_sem,seval]) (ir (B0:=B0) (by simp -implicitDefEqProofs only[go_sem,seval]<;>simp only[aH]) (aS (show ok (cq (ao.mk s_0.Builder s_0.b_ (az (s_0.at_+1)) s_0.aE) r1.1) _ from hh) fun r5=>?_))
  |with_reducible refine fun hh=>aI (B0:=B0) (preB0:=[]) (postB0:=[.sl false 1 s_0.b_.length (flat s_0.b_),.int .i64 (az (s_0.at_+1)),.bool s_0.aE]) (TB0:=251) (by simp -implicitDefEqProofs only[go_sem,seval]<;>simp only[aH]) (by first|rfl|simp) dF (aS (show ok (aw s_0.Builder r1.1) _ from hh) fun r6=>?_)
  |with_reducible refine fun hh=>dw (by simp -implicitDefEqProofs only[go_sem,seval]) (aI (B0:=B0) (preB0:=[]) (postB0:=[.sl false 1 s_0.b_.length (flat s_0.b_),.int .i64 (az (s_0.at_+1)),.bool s_0.aE]) (TB0:=251) (by simp -implicitDefEqProofs only[go_sem,seval]<;>simp only[aH]) (by first|rfl|simp) dF (aS (show ok (aw s_0.Builder r1.1) _ from hh) fun r6=>?_))
  |simp -implicitDefEqProofs only[go_sem,seval])
def eW(s_0:ao):Option (aa×Int×ao):=
 iter (fun((deep1,o2):Int×ao)=>
  cj (aR o2) fun r6=>
  if !r6.2 then
   cj (bF o2) fun r7=>
   some (.inr ((aa.mk 0 0 (aL.mk []) ([]:List aa)),r7,o2))
  else
   xR (
    if(r6.1.toNat:Int)==92 then
     cj (b8 (ao.mk o2.Builder o2.b_ (az (o2.at_+1)) o2.aE)) fun r18=>
     if !r18.1 then
      cj (bF r18.2) fun r19=>
      some (.inr (.inr (r19,r18.2)))
     else
      some (.inr (.inl r18.2))
    else
     if(r6.1.toNat:Int)==13 then
      cj (cq (ao.mk o2.Builder o2.b_ (az (o2.at_+1)) o2.aE) r6.1) fun r20=>
      if !r20.1 then
       cj (bF r20.2) fun r21=>
       some (.inr (.inr (r21,r20.2)))
      else
       some (.inl (deep1,10,r20.2))
     else
      if(r6.1.toNat:Int)==40 then
       some (.inl (az (deep1+1),r6.1,(ao.mk o2.Builder o2.b_ (az (o2.at_+1)) o2.aE)))
      else
       if(r6.1.toNat:Int)==41 then
        some (.inl (az (deep1 -1),r6.1,(ao.mk o2.Builder o2.b_ (az (o2.at_+1)) o2.aE)))
       else
        some (.inl (deep1,r6.1,(ao.mk o2.Builder o2.b_ (az (o2.at_+1)) o2.aE)))) (fun((deep9,c10,o11):Int×UInt8×ao)=>
    if deep9==0 then
     cj (aY o11.Builder) fun r22=>
     some (.inr ((aa.mk 4 0 r22.1 ([]:List aa)),(0:Int),(ao.mk r22.2 o11.b_ o11.at_ o11.aE)))
    else
     cj (aw o11.Builder c10) fun r23=>
     some (.inl (deep9,(ao.mk r23.2 o11.b_ o11.at_ o11.aE))))
   (j6 (fun(o14:ao)=>some (.inl (deep1,o14))) (fun((t16,o17):Int×ao)=>some (.inr ((aa.mk 0 0 (aL.mk []) ([]:List aa)),t16,o17))))) (1,s_0)
def oL:IC:=
 (aj [i1 2 (.aQ iC),mi 3 0] [0,2]
 (.vt 0 [(0,false),(2,false),(4,false)] (.cU none [mi 4 1] [0,2,4])
 .skip
 .skip
 (aj [mv 8 0,c1 9 253 8,lj 7 9,ex 10 7 0,ex 11 7 1,mv 5 10,mv 6 11] [0,2,4,5,6]
 (.seq (aj [mv 12 6,no 13 12] [0,2,4,5,13]
 (.cond (.t 13) (aj [i1 14 (.build iC []),mv 15 0,c1 16 254 15,st 4 2 14,mv 3 16] [2,3]
 .ret)
 .skip))
 (aj [mv 17 0,nc 18 17,fa 19 3 18,i1 20 (.bW oz false (.t 19)),bn 21 .add 20 1,nc 22 17,fa 23 3 22,st 1 23 21] [0,2,4,5]
 (.join [(0,false),(2,false),(4,false),(5,false)] (aj [mv 24 5] [0,2,4,5,24]
 (.block 0 (aj [bu 26 .eql 24 92,mv 25 26] [0,2,4,5,24,25]
 (.cond (.t 25) (.seq (aj [mv 27 0,c1 28 256 27,no 29 28] [0,2,4,29]
 (.cond (.t 29) (aj [i1 30 (.build iC []),mv 31 0,c1 32 254 31,st 4 2 30,mv 3 32] [2,3]
 .ret)
 .skip))
 (.goto 0))
 (aj [bu 34 .eql 24 13,mv 33 34] [0,2,4,5,24,33]
 (.cond (.t 33) (.seq (aj [mv 35 0,mv 36 5,c2 37 257 35 36,no 38 37] [0,2,4,38]
 (.cond (.t 38) (aj [i1 39 (.build iC []),mv 40 0,c1 41 254 40,st 4 2 39,mv 3 41] [2,3]
 .ret)
 .skip))
 (.cU none [dT 5 (.int .u8 10)] [0,2,4,5]))
 (aj [bu 43 .eql 24 40,mv 42 43] [0,2,4,5,24,42]
 (.cond (.t 42) (.cU none [mv 44 4,bn 45 .add 44 1,mv 4 45] [0,2,4,5])
 (aj [bu 47 .eql 24 41,mv 46 47] [0,2,4,5,46]
 (.cond (.t 46) (.cU none [mv 48 4,bn 49 .sub 48 1,mv 4 49] [0,2,4,5])
 .skip))))))))))
 (.seq (aj [mv 50 4,bn 51 .eql 50 0] [0,2,4,5,51]
 (.cond (.t 51) (aj [mv 52 0,nc 53 52,fa 54 0 53,c1 55 258 54,i1 56 (.build iC [(0,1,(.c (.int .i64 4))),(2,1,(.t 55))]),st 4 2 56,mi 3 0] [2,3]
 .ret)
 .skip))
 (aj [mv 57 0,nc 58 57,fa 59 0 58,mv 60 5,c2 61 259 59 60] [0,2,4]
 (.goto 0)))))))))
def nK:List bj:=[⟨2,false,some (4,true)⟩,⟨3,true,none⟩]
theorem xL:bG Go.Proofs.Tryz.prog 219 62 nK oL=true:=by kernel_rfl
theorem oV{s_0}{B0:Nat}{s:ab}{Q:List AV→ab→Prop}(hB0:s B0=some (.cells [dY 251 B0 0 s_0.Builder,dM s_0.Builder,.sl false 1 s_0.b_.length (flat s_0.b_),.int .i64 s_0.at_,.bool s_0.aE])):ok (eW s_0) (fun r=>Q [.agg [.int .i64 r.1.Kind,.int .i64 r.1.N,.str r.1.S.b,.sl false 4 r.1.L.length (flat r.1.L)],.int .i64 r.2.1] (s.set B0 (.cells [dY 251 B0 0 r.2.2.Builder,dM r.2.2.Builder,.sl false 1 r.2.2.b_.length (flat r.2.2.b_),.int .i64 r.2.2.at_,.bool r.2.2.aE])))→FN Go.Proofs.Tryz.prog 219 [.ref B0 0] s Q:=by
 have hS:s=(s.set B0 (.cells [dY 251 B0 0 s_0.Builder,dM s_0.Builder,.sl false 1 s_0.b_.length (flat s_0.b_),.int .i64 s_0.at_,.bool s_0.aE])):=by simp only[fu hB0]
 rw[hS]
 intro h
 refine FN.of (ay mix) xL rfl (Nat.le_of_ble_eq_true rfl) ?_
 revert h
 rw[oL,nK,eW]
 repeat'(first
  |with_reducible exact bI
  |with_reducible refine aU ?_ ?_
  |with_reducible exact aV
  |with_reducible refine bN ?_
  |with_reducible refine ak (fun _(h:aR o2=some _)=>bR (B0:=B0) (by simp -implicitDefEqProofs only[go_sem,seval]<;>simp only[aH]) h) (fun r6=>?_)
  |with_reducible refine ae (fun _(h:aR o2=some _)=>bR (B0:=B0) (by simp -implicitDefEqProofs only[go_sem,seval]<;>simp only[aH]) h) (fun _=>rfl) (fun r6=>?_)
  |with_reducible refine ak (fun _(h:bF o2=some _)=>cT (B0:=B0) (by simp -implicitDefEqProofs only[go_sem,seval]<;>simp only[aH]) h) (fun r7=>?_)
  |with_reducible refine ae (fun _(h:bF o2=some _)=>cT (B0:=B0) (by simp -implicitDefEqProofs only[go_sem,seval]<;>simp only[aH]) h) (fun _=>rfl) (fun r7=>?_)
  |with_reducible refine fun hh=>mP (B0:=B0) (by simp -implicitDefEqProofs only[go_sem,seval]<;>simp only[aH]) (aS (show ok (b8 (ao.mk o2.Builder o2.b_ (az (o2.at_+1)) o2.aE)) _ from hh) fun r18=>?_)
  |with_reducible refine fun hh=>dw (by simp -implicitDefEqProofs only[go_sem,seval]) (mP (B0:=B0) (by simp -implicitDefEqProofs only[go_sem,seval]<;>simp only[aH]) (aS (show ok (b8 (ao.mk o2.Builder o2.b_ (az (o2.at_+1)) o2.aE)) _ from hh) fun r18=>?_))
  |with_reducible refine ak (fun _(h:bF r18.2=some _)=>cT (B0:=B0) (by simp -implicitDefEqProofs only[go_sem,seval]<;>simp only[aH]) h) (fun r19=>?_)
  |with_reducible refine ae (fun _(h:bF r18.2=some _)=>cT (B0:=B0) (by simp -implicitDefEqProofs only[go_sem,seval]<;>simp only[aH]) h) (fun _=>rfl) (fun r19=>?_)
  |with_reducible refine fun hh=>ir (B0:=B0) (by simp -implicitDefEqProofs only[go_sem,seval]<;>simp only[aH]) (aS (show ok (cq (ao.mk o2.Builder o2.b_ (az (o2.at_+1)) o2.aE) r6.1) _ from hh) fun r20=>?_)
  |with_reducible refine fun hh=>dw (by simp -implicitDefEqProofs only[go_sem,seval]) (ir (B0:=B0) (by simp -implicitDefEqProofs only[go_sem,seval]<;>simp only[aH]) (aS (show ok (cq (ao.mk o2.Builder o2.b_ (az (o2.at_+1)) o2.aE) r6.1) _ from hh) fun r20=>?_))
  |with_reducible refine ak (fun _(h:bF r20.2=some _)=>cT (B0:=B0) (by simp -implicitDefEqProofs only[go_sem,seval]<;>simp only[aH]) h) (fun r21=>?_)
  |with_reducible refine ae (fun _(h:bF r20.2=some _)=>cT (B0:=B0) (by simp -implicitDefEqProofs only[go_sem,seval]<;>simp only[aH]) h) (fun _=>rfl) (fun r21=>?_)
  |with_reducible refine fun hh=>cI (B0:=B0) (preB0:=[]) (postB0:=[.sl false 1 o11.b_.length (flat o11.b_),.int .i64 o11.at_,.bool o11.aE]) (TB0:=251) (by simp -implicitDefEqProofs only[go_sem,seval]<;>simp only[aH]) (by first|rfl|simp) dF (aS (show ok (aY o11.Builder) _ from hh) fun r22=>?_)
  |with_reducible refine fun hh=>dw (by simp -implicitDefEqProofs only[go_sem,seval]) (cI (B0:=B0) (preB0:=[]) (postB0:=[.sl false 1 o11.b_.length (flat o11.b_),.int .i64 o11.at_,.bool o11.aE]) (TB0:=251) (by simp -implicitDefEqProofs only[go_sem,seval]<;>simp only[aH]) (by first|rfl|simp) dF (aS (show ok (aY o11.Builder) _ from hh) fun r22=>?_))
  |with_reducible refine fun hh=>aI (B0:=B0) (preB0:=[]) (postB0:=[.sl false 1 o11.b_.length (flat o11.b_),.int .i64 o11.at_,.bool o11.aE]) (TB0:=251) (by simp -implicitDefEqProofs only[go_sem,seval]<;>simp only[aH]) (by first|rfl|simp) dF (aS (show ok (aw o11.Builder c10) _ from hh) fun r23=>?_)
  |with_reducible refine fun hh=>dw (by simp -implicitDefEqProofs only[go_sem,seval]) (aI (B0:=B0) (preB0:=[]) (postB0:=[.sl false 1 o11.b_.length (flat o11.b_),.int .i64 o11.at_,.bool o11.aE]) (TB0:=251) (by simp -implicitDefEqProofs only[go_sem,seval]<;>simp only[aH]) (by first|rfl|simp) dF (aS (show ok (aw o11.Builder c10) _ from hh) fun r23=>?_))
  |((with_reducible refine dh (fun((deep9,c10,o11):Int×UInt8×ao)=>⟨[(0,.ref B0 0),(2,.loc [.int .i64 0,.int .i64 0,.str (aL.mk []).b,.sl true 4 0 []]),(4,.int .i64 deep9),(5,.int .u8 c10.toNat)],[],(s.set B0 (.cells [dY 251 B0 0 o11.Builder,dM o11.Builder,.sl false 1 o11.b_.length (flat o11.b_),.int .i64 o11.at_,.bool o11.aE]))⟩) (fun J=>?_) ?_);rotate_left;rintro⟨deep9,c10,o11⟩)
  |((with_reducible refine Ka (fun((deep1,o2):Int×ao)=>⟨[(0,.ref B0 0),(2,.loc [.int .i64 0,.int .i64 0,.str (aL.mk []).b,.sl true 4 0 []]),(4,.int .i64 deep1)],[],(s.set B0 (.cells [dY 251 B0 0 o2.Builder,dM o2.Builder,.sl false 1 o2.b_.length (flat o2.b_),.int .i64 o2.at_,.bool o2.aE]))⟩) ?_ ?_);(first|exact rfl|simp -implicitDefEqProofs only[go_sem,seval]);rintro J ⟨deep1,o2⟩)
  |simp -implicitDefEqProofs only[go_sem,seval])
def hG(w_0:aL):Option (aa×Int):=
 xR (
  oD (
   iter (fun((out5,i6):(List UInt8)×Int)=>
    if decide (i6<(w_0.b.length:Int))then
     bq (0≤i6∧i6<w_0.b.length)<|
     xR (
      if((ix w_0.b i6).toNat:Int)==35 then
       bq ((!(decide (az (i6+2)≥(w_0.b.length:Int))))=true→0≤az (i6+1)∧az (i6+1)<w_0.b.length)<|
       cj (fy (!(decide (az (i6+2)≥(w_0.b.length:Int)))) 0 (dq (ix w_0.b (az (i6+1))))) fun r18=>
       bq ((!((decide (az (i6+2)≥(w_0.b.length:Int)))||(decide (r18<0))))=true→0≤az (i6+2)∧az (i6+2)<w_0.b.length)<|
       cj (fy (!((decide (az (i6+2)≥(w_0.b.length:Int)))||(decide (r18<0)))) 0 (dq (ix w_0.b (az (i6+2))))) fun r19=>
       if((decide (az (i6+2)≥(w_0.b.length:Int)))||(decide (r18<0)))||(decide (r19<0))then
        some (.inr (17:Int))
       else
        bq (0≤az (i6+1)∧az (i6+1)<w_0.b.length)<|
        cj (dq (ix w_0.b (az (i6+1)))) fun r20=>
        bq (0≤az (i6+2)∧az (i6+2)<w_0.b.length)<|
        cj (dq (ix w_0.b (az (i6+2)))) fun r21=>
        some (.inl (az (i6+2),nh (az ((az (16*r20))+r21))))
      else
       some (.inl (i6,ix w_0.b i6))) (fun((i14,c15):Int×UInt8)=>
      bq ((out5.length+[c15].length)*1≤room)<|
      some (.inl (out5++[c15],az (i14+1))))
     (fun(t17:Int)=>some (.inr (.inr t17)))
    else
     some (.inr (.inl out5))) (([]:List UInt8),0)) (fun(out8:(List UInt8))=>
   some (.inl out8))
  (fun(t10:Int)=>some (.inr t10))) (fun(out2:(List UInt8))=>
  cj (fy (!(decide ((out2.length:Int)>127))) 0 (dA out2 0)) fun r22=>
  if(decide ((out2.length:Int)>127))||(decide (r22≥0))then
   some ((aa.mk 0 0 (aL.mk []) ([]:List aa)),17)
  else
   some ((aa.mk 5 0 (aL.mk out2) ([]:List aa)),0))
 (fun(t4:Int)=>some ((aa.mk 0 0 (aL.mk []) ([]:List aa)),t4))
def yI:IC:=
 (aj [i1 2 (.aQ iC),mi 3 0] [0,2]
 (aj [i1 4 (.iT true (.c (.sl true 1 0 [])))] [0,2,4]
 (.join [(2,false),(4,false)] (aj [mi 5 0] [0,2,4,5]
 (.block 0 (.loop [(0,false),(2,false),(4,false),(5,false)] (.seq (aj [mv 7 5,mv 8 0,le 9 1 8,bt 10 .lss 7 9] [0,2,4,5,10]
 (.cond (.t 10) .skip
 (.exit 0)))
 (.seq (.block 1 (aj [mv 13 0,mv 14 5,i1 15 (.dJ (.t 13) (.t 14)),mv 6 15] [0,2,4,5,6]
 (.join [(0,false),(2,false),(4,false),(5,false),(6,false)] (aj [mv 16 6,bu 17 .eql 16 35] [0,2,4,5,6,17]
 (.cond (.t 17) (.seq (.seq (.cU (some 19) [mv 18 5,bn 19 .add 18 2,mv 20 0,le 21 1 20,bt 22 .geq 19 21,mv 23 22,b6 24 0 23 false,b6 25 5 23 false,jz 26 23 false .add 25 1,cQ 27 23 false (.dJ (.t 24) (.t 26)),FC 28 23 false 260 27,jz 29 23 false .lss 28 0,po 30 23 29,mv 31 30,b6 32 0 31 false,b6 33 5 31 false,jz 34 31 false .add 33 2,cQ 35 31 false (.dJ (.t 32) (.t 34)),FC 36 31 false 260 35,jz 37 31 false .lss 36 0,po 38 31 37] [0,2,4,5,38])
 (.cond (.t 38) (aj [i1 39 (.build iC []),st 4 2 39,mi 3 17] [2,3]
 .ret)
 .skip))
 (.seq (.cU (some 14) [mv 40 0,mv 41 5,bn 42 .add 41 1,i1 43 (.dJ (.t 40) (.t 42)),c1 44 260 43,i1 45 (.bin .mul (.c (.int .i64 16)) (.t 44)),mv 46 0,mv 47 5,bn 48 .add 47 2,i1 49 (.dJ (.t 46) (.t 48)),c1 50 260 49,bt 51 .add 45 50,i1 52 (.dN .u8 (.t 51)),mv 6 52] [0,2,4,5,6])
 (.cU none [mv 53 5,bn 54 .add 53 2,mv 5 54] [0,2,4,5,6])))
 .skip))
 (.cU none [mt 55 4,mv 56 6,i1 57 (.b5 1 1 [.int .u8 0] [(0,1,(.t 56))]),NC 58 1 1 55 57,mt 4 58] [0,2,4,5]))))
 (.cU none [mv 11 5,bn 12 .add 11 1,mv 5 12] [0,2,4,5]))))))
 (.seq (.seq (.cU (some 6) [mv 59 4,le 60 0 59,bn 61 .gtr 60 127,mv 62 61,b6 63 4 62 false,cQ 64 62 false (.call 261 [(.t 63),(.c (.int .u8 0))]),jz 65 62 false .geq 64 0,po 66 62 65] [2,4,66])
 (.cond (.t 66) (aj [i1 67 (.build iC []),st 4 2 67,mi 3 17] [2,3]
 .ret)
 .skip))
 (aj [mt 68 4,i1 69 (.fA (.t 68)),i1 70 (.build iC [(0,1,(.c (.int .i64 5))),(2,1,(.t 69))]),st 4 2 70,mi 3 0] [2,3]
 .ret)))))
def w5:List bj:=[⟨2,false,some (4,true)⟩,⟨3,true,none⟩]
theorem GS:bG Go.Proofs.Tryz.prog 221 71 w5 yI=true:=by kernel_rfl
theorem G7{w_0}{s:ab}{Q:List AV→ab→Prop}:ok (hG w_0) (fun r=>Q [.agg [.int .i64 r.1.Kind,.int .i64 r.1.N,.str r.1.S.b,.sl false 4 r.1.L.length (flat r.1.L)],.int .i64 r.2] s)→FN Go.Proofs.Tryz.prog 221 [.str w_0.b] s Q:=by
 intro h
 refine FN.of (ay mix) GS rfl (Nat.le_of_ble_eq_true rfl) ?_
 revert h
 rw[yI,w5,hG]
 repeat'(first
  |with_reducible exact bI
  |with_reducible refine aU ?_ ?_
  |with_reducible exact aV
  |with_reducible refine bN ?_
  |((fail_if_success (have _x:=r18));with_reducible refine bM rfl (fun _(h:dq (ix w_0.b (az (i6+1)))=some _)=>di h) (fun _=>rfl) (fun r18=>?_))
  |((fail_if_success (have _x:=r18));with_reducible refine bM rfl (fun _(h:dq (ix w_0.b (az (i6+1)))=some _)=>(by refine al ?_ (di h);simp -implicitDefEqProofs only[go_sem,seval])) (fun _=>rfl) (fun r18=>?_))
  |((fail_if_success (have _x:=r19));with_reducible refine bM rfl (fun _(h:dq (ix w_0.b (az (i6+2)))=some _)=>di h) (fun _=>rfl) (fun r19=>?_))
  |((fail_if_success (have _x:=r19));with_reducible refine bM rfl (fun _(h:dq (ix w_0.b (az (i6+2)))=some _)=>(by refine al ?_ (di h);simp -implicitDefEqProofs only[go_sem,seval])) (fun _=>rfl) (fun r19=>?_))
  |((fail_if_success (have _x:=r20));with_reducible refine ak (fun _(h:dq (ix w_0.b (az (i6+1)))=some _)=>di h) (fun r20=>?_))
  |((fail_if_success (have _x:=r20));with_reducible refine ae (fun _(h:dq (ix w_0.b (az (i6+1)))=some _)=>di h) (fun _=>rfl) (fun r20=>?_))
  |((fail_if_success (have _x:=r20));with_reducible refine ak (fun _(h:dq (ix w_0.b (az (i6+1)))=some _)=>(by refine al ?_ (di h);simp -implicitDefEqProofs only[go_sem,seval])) (fun r20=>?_))
  |((fail_if_success (have _x:=r20));with_reducible refine ae (fun _(h:dq (ix w_0.b (az (i6+1)))=some _)=>(by refine al ?_ (di h);simp -implicitDefEqProofs only[go_sem,seval])) (fun _=>rfl) (fun r20=>?_))
  |((fail_if_success (have _x:=r21));with_reducible refine ak (fun _(h:dq (ix w_0.b (az (i6+2)))=some _)=>di h) (fun r21=>?_))
  |((fail_if_success (have _x:=r21));with_reducible refine ae (fun _(h:dq (ix w_0.b (az (i6+2)))=some _)=>di h) (fun _=>rfl) (fun r21=>?_))
  |((fail_if_success (have _x:=r21));with_reducible refine ak (fun _(h:dq (ix w_0.b (az (i6+2)))=some _)=>(by refine al ?_ (di h);simp -implicitDefEqProofs only[go_sem,seval])) (fun r21=>?_))
  |((fail_if_success (have _x:=r21));with_reducible refine ae (fun _(h:dq (ix w_0.b (az (i6+2)))=some _)=>(by refine al ?_ (di h);simp -implicitDefEqProofs only[go_sem,seval])) (fun _=>rfl) (fun r21=>?_))
  |with_reducible refine bM rfl (fun _(h:dA out2 0=some _)=>mD h) (fun _=>rfl) (fun r22=>?_)
  |with_reducible refine bM rfl (fun _(h:dA out2 0=some _)=>(by refine al ?_ (mD h);simp -implicitDefEqProofs only[go_sem,seval])) (fun _=>rfl) (fun r22=>?_)
  |((with_reducible refine dh (live:=[(0,false),(2,false),(4,false),(5,false),(6,false)]) (fun((i14,c15):Int×UInt8)=>⟨[(0,.str w_0.b),(2,.loc [.int .i64 0,.int .i64 0,.str (aL.mk []).b,.sl true 4 0 []]),(4,.sl true 1 out5.length (flat out5)),(5,.int .i64 i14),(6,.int .u8 c15.toNat)],[],s⟩) (fun J=>?_) ?_);rotate_left;rintro⟨i14,c15⟩)
  |((with_reducible refine dp (fun((out5,i6):(List UInt8)×Int)=>⟨[(0,.str w_0.b),(2,.loc [.int .i64 0,.int .i64 0,.str (aL.mk []).b,.sl true 4 0 []]),(4,.sl true 1 out5.length (flat out5)),(5,.int .i64 i6)],[],s⟩) ?_ ?_);(first|exact rfl|simp -implicitDefEqProofs only[go_sem,seval]);rintro J ⟨out5,i6⟩)
  |((with_reducible refine dh (live:=[(2,false),(4,false)]) (fun(out2:(List UInt8))=>⟨[(2,.loc [.int .i64 0,.int .i64 0,.str (aL.mk []).b,.sl true 4 0 []]),(4,.sl true 1 out2.length (flat out2))],[],s⟩) (fun J=>?_) ?_);rotate_left;rintro out2)
  |simp -implicitDefEqProofs only[go_sem,seval]
  |(rw[Nat.add_comm 1];with_reducible exact bI))
theorem ny{w_0}{s:ab}{r:aa×Int}(h:hG w_0=some r):FE Go.Proofs.Tryz.prog 221 [.str w_0.b] s [.agg [.int .i64 r.1.Kind,.int .i64 r.1.N,.str r.1.S.b,.sl false 4 r.1.L.length (flat r.1.L)],.int .i64 r.2] s:=G7 ⟨r,h,rfl,rfl⟩
def fm(s_0:ao)(c_1:UInt8):Option (aF×Int×ao):=
 cj (cW c_1) fun r1=>
 if r1 then
  cj (dP s_0) fun r2=>
  some (r2.1,r2.2.1,r2.2.2)
 else
  if(c_1.toNat:Int)==91 then
   some ((aF.mk 2 0 0 (aa.mk 0 0 (aL.mk []) ([]:List aa)) (aL.mk [])),0,(ao.mk s_0.Builder s_0.b_ (az (s_0.at_+1)) s_0.aE))
  else
   if(c_1.toNat:Int)==93 then
    some ((aF.mk 3 0 0 (aa.mk 0 0 (aL.mk []) ([]:List aa)) (aL.mk [])),0,(ao.mk s_0.Builder s_0.b_ (az (s_0.at_+1)) s_0.aE))
   else
    if(c_1.toNat:Int)==60 then
     cj (fh (ao.mk s_0.Builder s_0.b_ (az (s_0.at_+1)) s_0.aE)) fun r3=>
     some (r3.1,r3.2.1,r3.2.2)
    else
     if(c_1.toNat:Int)==62 then
      cj (ff (ao.mk s_0.Builder s_0.b_ (az (s_0.at_+1)) s_0.aE)) fun r4=>
      some (r4.1,r4.2.1,r4.2.2)
     else
      if(c_1.toNat:Int)==40 then
       cj (eW (ao.mk s_0.Builder s_0.b_ (az (s_0.at_+1)) s_0.aE)) fun r5=>
       some ((aF.mk 1 0 0 r5.1 (aL.mk [])),r5.2.1,r5.2.2)
      else
       if(c_1.toNat:Int)==47 then
        cj (dK (ao.mk s_0.Builder s_0.b_ (az (s_0.at_+1)) s_0.aE)) fun r6=>
        if !r6.2.1 then
         some ((aF.mk 0 0 0 (aa.mk 0 0 (aL.mk []) ([]:List aa)) (aL.mk [])),6,r6.2.2)
        else
         cj (hG r6.1) fun r7=>
         some ((aF.mk 1 0 0 r7.1 (aL.mk [])),r7.2,r6.2.2)
       else
        some ((aF.mk 0 0 0 (aa.mk 0 0 (aL.mk []) ([]:List aa)) (aL.mk [])),11,(ao.mk s_0.Builder s_0.b_ (az (s_0.at_+1)) s_0.aE))
def nv:IC:=
 (aj [i1 4 (.aQ jY),mi 5 0] [0,1,4]
 (.seq (aj [mv 12 1,c1 13 215 12] [0,1,4,13]
 (.cond (.t 13) (aj [mv 14 0,c1 15 216 14,ex 16 15 0,ex 17 15 1,st 8 4 16,mv 5 17] [4,5]
 .ret)
 .skip))
 (aj [mv 18 0,nc 19 18,fa 20 3 19,i1 21 (.bW oz false (.t 20)),bn 22 .add 21 1,nc 23 18,fa 24 3 23,st 1 24 22] [0,1,4]
 (.seq (aj [mv 25 1] [0,4,25]
 (.block 0 (aj [bu 27 .eql 25 91,mv 26 27] [0,4,25,26]
 (.cond (.t 26) (aj [i1 28 (.build jY [(0,1,(.c (.int .i64 2)))]),st 8 4 28,mi 5 0] [4,5]
 .ret)
 (aj [bu 30 .eql 25 93,mv 29 30] [0,4,25,29]
 (.cond (.t 29) (aj [i1 31 (.build jY [(0,1,(.c (.int .i64 3)))]),st 8 4 31,mi 5 0] [4,5]
 .ret)
 (aj [bu 33 .eql 25 60,mv 32 33] [0,4,25,32]
 (.cond (.t 32) (aj [mv 34 0,c1 35 217 34,ex 36 35 0,ex 37 35 1,st 8 4 36,mv 5 37] [4,5]
 .ret)
 (aj [bu 39 .eql 25 62,mv 38 39] [0,4,25,38]
 (.cond (.t 38) (aj [mv 40 0,c1 41 218 40,ex 42 41 0,ex 43 41 1,st 8 4 42,mv 5 43] [4,5]
 .ret)
 (aj [bu 45 .eql 25 40,mv 44 45] [0,4,25,44]
 (.cond (.t 44) (aj [mv 47 0,c1 48 219 47,lj 46 48,ex 49 46 0,ex 50 46 1,i1 6 (.aQ iC),st 4 6 49,mv 7 50] [4,6,7]
 (aj [lm 51 4 6,i1 52 (.build jY [(0,1,(.c (.int .i64 1))),(3,4,(.t 51))]),mv 53 7,st 8 4 52,mv 5 53] [4,5]
 .ret))
 (aj [bu 55 .eql 25 47,mv 54 55] [0,4,54]
 (.cond (.t 54) (aj [mv 57 0,c1 58 220 57,lj 56 58,ex 59 56 0,ex 60 56 1,mv 8 59,mv 9 60] [4,8,9]
 (.seq (aj [mv 61 9,no 62 61] [4,8,62]
 (.cond (.t 62) (aj [i1 63 (.build jY []),st 8 4 63,mi 5 6] [4,5]
 .ret)
 .skip))
 (aj [mv 65 8,c1 66 221 65,lj 64 66,ex 67 64 0,ex 68 64 1,i1 10 (.aQ iC),st 4 10 67,mv 11 68] [4,10,11]
 (aj [lm 69 4 10,i1 70 (.build jY [(0,1,(.c (.int .i64 1))),(3,4,(.t 69))]),mv 71 11,st 8 4 70,mv 5 71] [4,5]
 .ret))))
 .skip))))))))))))))
 (aj [i1 72 (.build jY []),st 8 4 72,mi 5 11] [4,5]
 .ret)))))
def mX:List bj:=[⟨4,false,some (8,true)⟩,⟨5,true,none⟩]
theorem wE:bG Go.Proofs.Tryz.prog 180 73 mX nv=true:=by kernel_rfl
theorem nC{s_0 c_1}{B0:Nat}{s:ab}{Q:List AV→ab→Prop}(hB0:s B0=some (.cells [dY 251 B0 0 s_0.Builder,dM s_0.Builder,.sl false 1 s_0.b_.length (flat s_0.b_),.int .i64 s_0.at_,.bool s_0.aE])):ok (fm s_0 c_1) (fun r=>Q [.agg [.int .i64 r.1.Kind,.int .i64 r.1.bP,.int .i64 r.1.To,.int .i64 r.1.V.Kind,.int .i64 r.1.V.N,.str r.1.V.S.b,.sl false 4 r.1.V.L.length (flat r.1.V.L),.str r.1.S.b],.int .i64 r.2.1] (s.set B0 (.cells [dY 251 B0 0 r.2.2.Builder,dM r.2.2.Builder,.sl false 1 r.2.2.b_.length (flat r.2.2.b_),.int .i64 r.2.2.at_,.bool r.2.2.aE])))→FN Go.Proofs.Tryz.prog 180 [.ref B0 0,.int .u8 c_1.toNat] s Q:=by
 have hS:s=(s.set B0 (.cells [dY 251 B0 0 s_0.Builder,dM s_0.Builder,.sl false 1 s_0.b_.length (flat s_0.b_),.int .i64 s_0.at_,.bool s_0.aE])):=by simp only[fu hB0]
 rw[hS]
 intro h
 refine FN.of (ay mix) wE rfl (Nat.le_of_ble_eq_true rfl) ?_
 revert h
 rw[nv,mX,fm]
 repeat'(first
  |with_reducible exact bI
  |with_reducible refine aU ?_ ?_
  |with_reducible exact aV
  |with_reducible refine bN ?_
  |with_reducible refine ak (fun _(h:cW c_1=some _)=>gp h) (fun r1=>?_)
  |with_reducible refine ae (fun _(h:cW c_1=some _)=>gp h) (fun _=>rfl) (fun r1=>?_)
  |with_reducible refine ak (fun _(h:cW c_1=some _)=>(by refine al ?_ (gp h);simp -implicitDefEqProofs only[go_sem,seval])) (fun r1=>?_)
  |with_reducible refine ae (fun _(h:cW c_1=some _)=>(by refine al ?_ (gp h);simp -implicitDefEqProofs only[go_sem,seval])) (fun _=>rfl) (fun r1=>?_)
  |with_reducible refine fun hh=>kY (B0:=B0) (by simp -implicitDefEqProofs only[go_sem,seval]<;>simp only[aH]) (aS (show ok (dP s_0) _ from hh) fun r2=>?_)
  |with_reducible refine fun hh=>dw (by simp -implicitDefEqProofs only[go_sem,seval]) (kY (B0:=B0) (by simp -implicitDefEqProofs only[go_sem,seval]<;>simp only[aH]) (aS (show ok (dP s_0) _ from hh) fun r2=>?_))
  |with_reducible refine fun hh=>lL (B0:=B0) (by simp -implicitDefEqProofs only[go_sem,seval]<;>simp only[aH]) (aS (show ok (fh (ao.mk s_0.Builder s_0.b_ (az (s_0.at_+1)) s_0.aE)) _ from hh) fun r3=>?_)
  |with_reducible refine fun hh=>dw (by simp -implicitDefEqProofs only[go_sem,seval]) (lL (B0:=B0) (by simp -implicitDefEqProofs only[go_sem,seval]<;>simp only[aH]) (aS (show ok (fh (ao.mk s_0.Builder s_0.b_ (az (s_0.at_+1)) s_0.aE)) _ from hh) fun r3=>?_))
  |with_reducible refine fun hh=>lK (B0:=B0) (by simp -implicitDefEqProofs only[go_sem,seval]<;>simp only[aH]) (aS (show ok (ff (ao.mk s_0.Builder s_0.b_ (az (s_0.at_+1)) s_0.aE)) _ from hh) fun r4=>?_)
  |with_reducible refine fun hh=>dw (by simp -implicitDefEqProofs only[go_sem,seval]) (lK (B0:=B0) (by simp -implicitDefEqProofs only[go_sem,seval]<;>simp only[aH]) (aS (show ok (ff (ao.mk s_0.Builder s_0.b_ (az (s_0.at_+1)) s_0.aE)) _ from hh) fun r4=>?_))
  |with_reducible refine fun hh=>oV (B0:=B0) (by simp -implicitDefEqProofs only[go_sem,seval]<;>simp only[aH]) (aS (show ok (eW (ao.mk s_0.Builder s_0.b_ (az (s_0.at_+1)) s_0.aE)) _ from hh) fun r5=>?_)
  |with_reducible refine fun hh=>dw (by simp -implicitDefEqProofs only[go_sem,seval]) (oV (B0:=B0) (by simp -implicitDefEqProofs only[go_sem,seval]<;>simp only[aH]) (aS (show ok (eW (ao.mk s_0.Builder s_0.b_ (az (s_0.at_+1)) s_0.aE)) _ from hh) fun r5=>?_))
  |with_reducible refine fun hh=>iu (B0:=B0) (by simp -implicitDefEqProofs only[go_sem,seval]<;>simp only[aH]) (aS (show ok (dK (ao.mk s_0.Builder s_0.b_ (az (s_0.at_+1)) s_0.aE)) _ from hh) fun r6=>?_)
  |with_reducible refine fun hh=>dw (by simp -implicitDefEqProofs only[go_sem,seval]) (iu (B0:=B0) (by simp -implicitDefEqProofs only[go_sem,seval]<;>simp only[aH]) (aS (show ok (dK (ao.mk s_0.Builder s_0.b_ (az (s_0.at_+1)) s_0.aE)) _ from hh) fun r6=>?_))
  |with_reducible refine ak (fun _(h:hG r6.1=some _)=>ny h) (fun r7=>?_)
  |with_reducible refine ae (fun _(h:hG r6.1=some _)=>ny h) (fun _=>rfl) (fun r7=>?_)
  |with_reducible refine ak (fun _(h:hG r6.1=some _)=>(by refine al ?_ (ny h);simp -implicitDefEqProofs only[go_sem,seval])) (fun r7=>?_)
  |with_reducible refine ae (fun _(h:hG r6.1=some _)=>(by refine al ?_ (ny h);simp -implicitDefEqProofs only[go_sem,seval])) (fun _=>rfl) (fun r7=>?_)
  |simp -implicitDefEqProofs only[go_sem,seval])
def bQ(b_0:(List UInt8))(at_1:Int)(last_2:Bool):Option (aF×Int):=
 if(decide (at_1<0))||(decide (at_1>(b_0.length:Int)))then
  some ((aF.mk 0 0 0 (aa.mk 0 0 (aL.mk []) ([]:List aa)) (aL.mk [])),2)
 else
  cj (iS b_0 at_1) fun r1=>
  if r1==(b_0.length:Int)then
   if last_2 then
    some ((aF.mk 0 r1 r1 (aa.mk 0 0 (aL.mk []) ([]:List aa)) (aL.mk [])),0)
   else
    some ((aF.mk 0 r1 r1 (aa.mk 0 0 (aL.mk []) ([]:List aa)) (aL.mk [])),6)
  else
   bq (0≤r1∧r1<b_0.length)<|
   cj (fm (ao.mk xl.zero b_0 r1 last_2) (ix b_0 r1)) fun r2=>
   if r2.2.1 !=0 then
    some ((aF.mk 0 r1 r1 (aa.mk 0 0 (aL.mk []) ([]:List aa)) (aL.mk [])),r2.2.1)
   else
    some ((aF.mk r2.1.Kind r1 r2.2.2.at_ r2.1.V r2.1.S),0)
def yG:IC:=
 (aj [i1 6 (.aQ jY),mi 7 0] [0,1,2,6]
 (.seq (aj [mv 12 1,bn 13 .lss 12 0,mv 14 13,b6 15 1 14 false,b6 16 0 14 false,cQ 17 14 false (.len 0 (.t 16)),Ap 18 14 false .gtr 15 17,po 19 14 18] [0,1,2,6,19]
 (.cond (.t 19) (aj [i1 20 (.build jY []),st 8 6 20,mi 7 2] [6,7]
 .ret)
 .skip))
 (aj [mv 21 0,mv 22 1,c2 23 179 21 22,mv 8 23] [0,2,6,8]
 (.seq (aj [mv 24 8,mv 25 0,le 26 0 25,bt 27 .eql 24 26] [0,2,6,8,27]
 (.cond (.t 27) (.seq (aj [mv 28 2] [6,8,28]
 (.cond (.t 28) (aj [mv 29 8,mv 30 8,i1 31 (.build jY [(1,1,(.t 29)),(2,1,(.t 30))]),st 8 6 31,mi 7 0] [6,7]
 .ret)
 .skip))
 (aj [mv 32 8,mv 33 8,i1 34 (.build jY [(1,1,(.t 32)),(2,1,(.t 33))]),st 8 6 34,mi 7 6] [6,7]
 .ret))
 .skip))
 (aj [mv 35 0,mv 36 8,mv 37 2,i1 38 (.build [.dG,.bb 5 0 [],.sl true 1 0 [],.int .i64 0,.bool false] [(2,1,(.t 35)),(3,1,(.t 36)),(4,1,(.t 37))]),i1 39 (.Ez 5 251 0 5 (.t 38)),mv 9 39] [0,6,8,9]
 (aj [mv 41 9,mt 42 0,mv 43 8,ia 44 [.int .u8 0] 42 43,ld 45 1 44,c2 46 180 41 45,lj 40 46,ex 47 40 0,ex 48 40 1,i1 10 (.aQ jY),st 8 10 47,mv 11 48] [6,8,9,10,11]
 (.seq (aj [mv 49 11,bn 50 .neq 49 0] [6,8,9,10,11,50]
 (.cond (.t 50) (aj [mv 51 8,mv 52 8,i1 53 (.build jY [(1,1,(.t 51)),(2,1,(.t 52))]),mv 54 11,st 8 6 53,mv 7 54] [6,7]
 .ret)
 .skip))
 (.seq (.Lz [[false,false,false,false,false,false,false,false,false],[false,false,false,false,false,false,false,false,false],[false,true,false,false,false,false,false,false,false],[false,false,true,false,false,false,false,false,false],[false,false,false,true,false,false,false,false,false],[true,false,false,false,false,false,false,false,false],[true,false,false,false,false,true,false,false,false],[true,true,true,true,true,true,true,false,false],[true,true,true,true,true,true,true,true,false]] [mv 55 8,mv 56 9,nc 57 56,fa 58 3 57,i1 59 (.bW oz false (.t 58)),fa 60 1 10,st 1 60 55,fa 61 2 10,st 1 61 59] [6,10])
 (aj [lm 62 8 10,st 8 6 62,mi 7 0] [6,7]
 .ret)))))))))
def wY:List bj:=[⟨6,false,some (8,true)⟩,⟨7,true,none⟩]
theorem GQ:bG Go.Proofs.Tryz.prog 127 63 wY yG=true:=by kernel_rfl
set_option maxHeartbeats 8000000 in
theorem GZ{b_0 at_1 last_2}{s:ab}{Q:List AV→ab→Prop}:ok (bQ b_0 at_1 last_2) (fun r=>Q [.agg [.int .i64 r.1.Kind,.int .i64 r.1.bP,.int .i64 r.1.To,.int .i64 r.1.V.Kind,.int .i64 r.1.V.N,.str r.1.V.S.b,.sl false 4 r.1.V.L.length (flat r.1.V.L),.str r.1.S.b],.int .i64 r.2] s)→FN Go.Proofs.Tryz.prog 127 [.sl false 1 b_0.length (flat b_0),.int .i64 at_1,.bool last_2] s Q:=by
 intro h
 refine FN.forget ?_
 refine FN.of (ay mix) GQ rfl (Nat.le_of_ble_eq_true rfl) ?_
 revert h
 rw[yG,wY,bQ]
 repeat'(first
  |with_reducible exact bI
  |with_reducible refine aU ?_ ?_
  |with_reducible exact aV
  |with_reducible refine bN ?_
  |((with_reducible apply ZD);(·intro Q' hQ;repeat'(first|exact hQ|(simp only[eu,dv,cV,du,xh,yr,Bool.not_true,Bool.not_false,Bool.or_true,Bool.true_or,Bool.false_or,Bool.or_false,Bool.and_true,Bool.true_and,Bool.and_false,Bool.false_and,cond_true,cond_false,true_and,and_true];done)|with_reducible refine⟨?_,?_⟩|with_reducible exact trivial|simp only[eu,dv,cV,du,xh,yr,Bool.not_true,Bool.not_false,Bool.or_true,Bool.true_or,Bool.false_or,Bool.or_false,Bool.and_true,Bool.true_and,Bool.and_false,Bool.false_and,cond_true,cond_false,true_and,and_true]|simp -implicitDefEqProofs only[go_sem,seval])))
  |with_reducible refine ak (fun _(h:iS b_0 at_1=some _)=>nx h) (fun r1=>?_)
  |with_reducible refine ae (fun _(h:iS b_0 at_1=some _)=>nx h) (fun _=>rfl) (fun r1=>?_)
  |with_reducible refine ak (fun _(h:iS b_0 at_1=some _)=>(by refine al ?_ (nx h);simp -implicitDefEqProofs only[go_sem,seval])) (fun r1=>?_)
  |with_reducible refine ae (fun _(h:iS b_0 at_1=some _)=>(by refine al ?_ (nx h);simp -implicitDefEqProofs only[go_sem,seval])) (fun _=>rfl) (fun r1=>?_)
  |with_reducible refine fun hh=>nC (B0:=N1) (by simp -implicitDefEqProofs only[go_sem,seval]<;>simp only[aH]) (aS (show ok (fm (ao.mk xl.zero b_0 r1 last_2) (ix b_0 r1)) _ from hh) fun r2=>?_)
  |with_reducible refine fun hh=>dw (by simp -implicitDefEqProofs only[go_sem,seval]) (nC (B0:=N1) (by simp -implicitDefEqProofs only[go_sem,seval]<;>simp only[aH]) (aS (show ok (fm (ao.mk xl.zero b_0 r1 last_2) (ix b_0 r1)) _ from hh) fun r2=>?_))
  |((fail_if_success (have _x:=sN1));with_reducible intro hh N1 hN1;(try simp only[gr]at hN1);have sN1:=hN1;revert hh)
  |with_reducible exact fun hh=>⟨_,pG.set (pG.refl _) (by simp[ab.set,sN1]),hh⟩
  |with_reducible exact fun hh=>⟨_,pG.refl _,hh⟩
  |simp -implicitDefEqProofs only[go_sem,seval]
  |simp -implicitDefEqProofs only[go_sem,seval])
theorem bZ{b_0 at_1 last_2}{s:ab}{r:aF×Int}(h:bQ b_0 at_1 last_2=some r):FE Go.Proofs.Tryz.prog 127 [.sl false 1 b_0.length (flat b_0),.int .i64 at_1,.bool last_2] s [.agg [.int .i64 r.1.Kind,.int .i64 r.1.bP,.int .i64 r.1.To,.int .i64 r.1.V.Kind,.int .i64 r.1.V.N,.str r.1.V.S.b,.sl false 4 r.1.V.L.length (flat r.1.V.L),.str r.1.S.b],.int .i64 r.2] s:=GZ ⟨r,h,rfl,rfl⟩
end Go.AB
end
