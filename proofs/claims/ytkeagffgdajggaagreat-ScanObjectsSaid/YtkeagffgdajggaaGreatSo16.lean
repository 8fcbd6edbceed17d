/- A part of the proof: Pq, Hp, Pr, Pt. -/
import Derived.Test.YtkeagffgdajggaaGreatSo14
import Derived.Test.YtkeagffgdajggaaGreatSo15
import Derived.Test.YtkeagffgdajggaaGreatSo12
set_option linter.unusedSimpArgs false
set_option linter.unusedVariables false
section
set_option maxRecDepth 4000
namespace Go.AB
open Go
attribute[-go_sem] dv eu cV du
@[go_sem]theorem ZQ(g:Bool):(g=true→(2:Int)≠0)=True:=eq_true (fun _=>by decide)
def gx(t_0:aF):Option (Bool):=some ((t_0.Kind==1)&&(t_0.V.Kind==2))
def rO:IC:=
 (aj [i1 1 (.lZ 8 (.t 0)),dT 2 (.bool false)] [1]
 (aj [fa 3 0 1,ld 4 1 3,bn 5 .eql 4 1,mv 6 5,fg 7 6 true 3 1,fg 8 6 true 0 7,lg 9 6 true 1 8,jz 10 6 true .eql 9 2,pf 11 6 10,mv 2 11] [2]
 .ret))
def qJ:List bj:=[⟨2,true,none⟩]
theorem Bi:bG Go.Proofs.Tryz.prog 124 12 qJ rO=true:=by kernel_rfl
theorem BH{t_0}{s:ab}{Q:List AV→ab→Prop}:ok (gx t_0) (fun r=>Q [.bool r] s)→FN Go.Proofs.Tryz.prog 124 [.agg [.int .i64 t_0.Kind,.int .i64 t_0.bP,.int .i64 t_0.To,.int .i64 t_0.V.Kind,.int .i64 t_0.V.N,.str t_0.V.S.b,.sl false 4 t_0.V.L.length (flat t_0.V.L),.str t_0.S.b]] s Q:=by
 intro h
 refine FN.of (ay mix) Bi rfl (Nat.le_of_ble_eq_true rfl) ?_
 revert h
 rw[rO,qJ,gx]
 repeat'(first
  |with_reducible exact bI
  |with_reducible refine aU ?_ ?_
  |with_reducible exact aV
  |with_reducible refine bN ?_
  |simp -implicitDefEqProofs only[go_sem,seval])
theorem ib{t_0}{s:ab}{r:Bool}(h:gx t_0=some r):FE Go.Proofs.Tryz.prog 124 [.agg [.int .i64 t_0.Kind,.int .i64 t_0.bP,.int .i64 t_0.To,.int .i64 t_0.V.Kind,.int .i64 t_0.V.N,.str t_0.V.S.b,.sl false 4 t_0.V.L.length (flat t_0.V.L),.str t_0.S.b]] s [.bool r] s:=BH ⟨r,h,rfl,rfl⟩
def dE(e_0:Int):Option (Int):=
 if e_0==6 then
  some e_0
 else
  some 0
def tT:IC:=
 (aj [mi 2 0] [0]
 (.seq (aj [mv 3 0,bn 4 .eql 3 6] [0,4]
 (.cond (.t 4) (aj [mv 5 0,mv 2 5] [2]
 .ret)
 .skip))
 (aj [mi 2 0] [2]
 .ret)))
def sA:List bj:=[⟨2,true,none⟩]
theorem CP:bG Go.Proofs.Tryz.prog 227 6 sA tT=true:=by kernel_rfl
theorem C7{e_0}{s:ab}{Q:List AV→ab→Prop}:ok (dE e_0) (fun r=>Q [.int .i64 r] s)→FN Go.Proofs.Tryz.prog 227 [.int .i64 e_0] s Q:=by
 intro h
 refine FN.of (ay mix) CP rfl (Nat.le_of_ble_eq_true rfl) ?_
 revert h
 rw[tT,sA,dE]
 repeat'(first
  |with_reducible exact bI
  |with_reducible refine aU ?_ ?_
  |with_reducible exact aV
  |with_reducible refine bN ?_
  |simp -implicitDefEqProofs only[go_sem,seval])
theorem eX{e_0}{s:ab}{r:Int}(h:dE e_0=some r):FE Go.Proofs.Tryz.prog 227 [.int .i64 e_0] s [.int .i64 r] s:=C7 ⟨r,h,rfl,rfl⟩
def pZ(w_0:aL):Option (aa×Int):=
 if w_0.b==(aL.mk [116,114,117,101]).b then
  some ((aa.mk 1 1 (aL.mk []) ([]:List aa)),0)
 else
  if w_0.b==(aL.mk [102,97,108,115,101]).b then
   some ((aa.mk 1 0 (aL.mk []) ([]:List aa)),0)
  else
   if w_0.b==(aL.mk [110,117,108,108]).b then
    some ((aa.mk 0 0 (aL.mk []) ([]:List aa)),0)
   else
    some ((aa.mk 0 0 (aL.mk []) ([]:List aa)),11)
def tV:IC:=
 (aj [i1 2 (.aQ iC),mi 3 0] [0,2]
 (.seq (aj [mv 4 0] [2,4]
 (.block 0 (aj [i1 6 (.bin .eql (.t 4) (.c (.str [116,114,117,101]))),mv 5 6] [2,4,5]
 (.cond (.t 5) (aj [i1 7 (.build iC [(0,1,(.c (.int .i64 1))),(1,1,(.c (.int .i64 1)))]),st 4 2 7,mi 3 0] [2,3]
 .ret)
 (aj [i1 9 (.bin .eql (.t 4) (.c (.str [102,97,108,115,101]))),mv 8 9] [2,4,8]
 (.cond (.t 8) (aj [i1 10 (.build iC [(0,1,(.c (.int .i64 1)))]),st 4 2 10,mi 3 0] [2,3]
 .ret)
 (aj [i1 12 (.bin .eql (.t 4) (.c (.str [110,117,108,108]))),mv 11 12] [2,11]
 (.cond (.t 11) (aj [i1 13 (.build iC []),st 4 2 13,mi 3 0] [2,3]
 .ret)
 .skip))))))))
 (aj [i1 14 (.build iC []),st 4 2 14,mi 3 11] [2,3]
 .ret)))
def sC:List bj:=[⟨2,false,some (4,true)⟩,⟨3,true,none⟩]
theorem CR:bG Go.Proofs.Tryz.prog 183 15 sC tV=true:=by kernel_rfl
theorem C9{w_0}{s:ab}{Q:List AV→ab→Prop}:ok (pZ w_0) (fun r=>Q [.agg [.int .i64 r.1.Kind,.int .i64 r.1.N,.str r.1.S.b,.sl false 4 r.1.L.length (flat r.1.L)],.int .i64 r.2] s)→FN Go.Proofs.Tryz.prog 183 [.str w_0.b] s Q:=by
 intro h
 refine FN.of (ay mix) CR rfl (Nat.le_of_ble_eq_true rfl) ?_
 revert h
 rw[tV,sC,pZ]
 repeat'(first
  |with_reducible exact bI
  |with_reducible refine aU ?_ ?_
  |with_reducible exact aV
  |with_reducible refine bN ?_
  |simp -implicitDefEqProofs only[go_sem,seval])
theorem oq{w_0}{s:ab}{r:aa×Int}(h:pZ w_0=some r):FE Go.Proofs.Tryz.prog 183 [.str w_0.b] s [.agg [.int .i64 r.1.Kind,.int .i64 r.1.N,.str r.1.S.b,.sl false 4 r.1.L.length (flat r.1.L)],.int .i64 r.2] s:=C9 ⟨r,h,rfl,rfl⟩
structure eY where
 b_:(List UInt8)
 at_:Int
 aE:Bool
 open_:AV
def kA(s_0:eY):Option (aF×Int×eY):=
 cj (bQ s_0.b_ s_0.at_ s_0.aE) fun r1=>
 jn (
  if r1.2==0 then
   some (eY.mk s_0.b_ r1.1.To s_0.aE s_0.open_)
  else
   some s_0) fun(o5:eY)=>
 some (r1.1,r1.2,o5)
def lI:IC:=
 (aj [i1 2 (.aQ jY),mi 3 0] [0,2]
 (.seq (.FJ [4] 19 [mv 7 0,nc 8 7,fa 9 0 8,i1 10 (.bW [.sl false 1 0 []] false (.t 9)),mv 11 0,nc 12 11,fa 13 1 12,i1 14 (.bW oz false (.t 13)),mv 15 0,nc 16 15,fa 17 2 16,i1 18 (.bW [.bool false] false (.t 17)),c3 19 127 10 14 18,lj 6 19,ex 20 6 0,ex 21 6 1,i1 4 (.aQ jY),st 8 4 20,mv 5 21] [0,2,4,5])
 (.join [(2,false),(4,false),(5,false)] (aj [mv 22 5,bn 23 .eql 22 0] [0,2,4,5,23]
 (.cond (.t 23) (.cU none [mv 24 0,fa 25 2 4,ld 26 1 25,nc 27 24,fa 28 1 27,st 1 28 26] [2,4,5])
 .skip))
 (aj [lm 29 8 4,mv 30 5,st 8 2 29,mv 3 30] [2,3]
 .ret))))
def lq:List bj:=[⟨2,false,some (8,true)⟩,⟨3,true,none⟩]
theorem tH:bG Go.Proofs.Tryz.prog 74 31 lq lI=true:=by kernel_rfl
theorem tJ{s_0}{B0:Nat}{s:ab}{Q:List AV→ab→Prop}(hB0:s B0=some (.cells [.sl false 1 s_0.b_.length (flat s_0.b_),.int .i64 s_0.at_,.bool s_0.aE,s_0.open_])):ok (kA s_0) (fun r=>Q [.agg [.int .i64 r.1.Kind,.int .i64 r.1.bP,.int .i64 r.1.To,.int .i64 r.1.V.Kind,.int .i64 r.1.V.N,.str r.1.V.S.b,.sl false 4 r.1.V.L.length (flat r.1.V.L),.str r.1.S.b],.int .i64 r.2.1] (s.set B0 (.cells [.sl false 1 r.2.2.b_.length (flat r.2.2.b_),.int .i64 r.2.2.at_,.bool r.2.2.aE,r.2.2.open_])))→FN Go.Proofs.Tryz.prog 74 [.ref B0 0] s Q:=by
 have hS:s=(s.set B0 (.cells [.sl false 1 s_0.b_.length (flat s_0.b_),.int .i64 s_0.at_,.bool s_0.aE,s_0.open_])):=by simp only[fu hB0]
 rw[hS]
 intro h
 refine FN.of (ay mix) tH rfl (Nat.le_of_ble_eq_true rfl) ?_
 revert h
 rw[lI,lq,kA]
 repeat'(first
  |with_reducible exact bI
  |((with_reducible refine L9 ?_ ?_);exact rfl)
  |((with_reducible refine M7 ?_ ?_);exact rfl)
  |with_reducible refine aU ?_ ?_
  |with_reducible exact aV
  |with_reducible refine bN ?_
  |with_reducible refine ak (fun _(h:bQ s_0.b_ s_0.at_ s_0.aE=some _)=>bZ h) (fun r1=>?_)
  |with_reducible refine ae (fun _(h:bQ s_0.b_ s_0.at_ s_0.aE=some _)=>bZ h) (fun _=>rfl) (fun r1=>?_)
  |with_reducible refine ak (fun _(h:bQ s_0.b_ s_0.at_ s_0.aE=some _)=>(by refine al ?_ (bZ h);simp -implicitDefEqProofs only[go_sem,seval])) (fun r1=>?_)
  |with_reducible refine ae (fun _(h:bQ s_0.b_ s_0.at_ s_0.aE=some _)=>(by refine al ?_ (bZ h);simp -implicitDefEqProofs only[go_sem,seval])) (fun _=>rfl) (fun r1=>?_)
  |((with_reducible refine ft (fun(o5:eY)=>⟨[(2,.loc [.int .i64 0,.int .i64 0,.int .i64 0,.int .i64 0,.int .i64 0,.str (aL.mk []).b,.sl true 4 0 [],.str (aL.mk []).b]),(4,.loc [.int .i64 r1.1.Kind,.int .i64 r1.1.bP,.int .i64 r1.1.To,.int .i64 r1.1.V.Kind,.int .i64 r1.1.V.N,.str r1.1.V.S.b,.sl false 4 r1.1.V.L.length (flat r1.1.V.L),.str r1.1.S.b]),(5,.int .i64 r1.2)],[],(s.set B0 (.cells [.sl false 1 o5.b_.length (flat o5.b_),.int .i64 o5.at_,.bool o5.aE,o5.open_]))⟩) (fun J=>?_) ?_);rotate_left;rintro o5)
  |simp -implicitDefEqProofs only[go_sem,seval])
def eL(s_0:eY)(v_1:aa):Option (aa×Int×eY):=
 cj (bQ s_0.b_ s_0.at_ s_0.aE) fun r1=>
 cj (fy (!(r1.2 !=0)) false (gx r1.1)) fun r2=>
 if(r1.2 !=0)||(!r2)then
  cj (dE r1.2) fun r3=>
  some (v_1,r3,s_0)
 else
  cj (bQ s_0.b_ r1.1.To s_0.aE) fun r4=>
  if((r4.2 !=0)||(r4.1.Kind !=6))||(!(r4.1.S.b==(aL.mk [82]).b))then
   cj (dE r4.2) fun r5=>
   some (v_1,r5,s_0)
  else
   if((decide (v_1.N<1))||(decide (v_1.N>4096)))||(r1.1.V.N !=0)then
    some (v_1,26,s_0)
   else
    some ((aa.mk 8 v_1.N (aL.mk []) ([]:List aa)),0,(eY.mk s_0.b_ r4.1.To s_0.aE s_0.open_))
def mL:IC:=
 (aj [i1 3 (.lZ 4 (.t 1)),i1 4 (.aQ iC),mi 5 0] [0,3,4]
 (.seq (.FJ [6] 19 [mv 10 0,nc 11 10,fa 12 0 11,i1 13 (.bW [.sl false 1 0 []] false (.t 12)),mv 14 0,nc 15 14,fa 16 1 15,i1 17 (.bW oz false (.t 16)),mv 18 0,nc 19 18,fa 20 2 19,i1 21 (.bW [.bool false] false (.t 20)),c3 22 127 13 17 21,lj 9 22,ex 23 9 0,ex 24 9 1,i1 6 (.aQ jY),st 8 6 23,mv 7 24] [0,3,4,6,7])
 (.seq (.seq (.cU (some 5) [mv 25 7,bn 26 .neq 25 0,mv 27 26,cQ 28 27 false (.load 8 true (.t 6)),FC 29 27 false 124 28,cQ 30 27 false (.un .not (.t 29)),po 31 27 30] [0,3,4,6,7,31])
 (.cond (.t 31) (.seq (.cU (some 3) [lm 32 4 3,mv 33 7,c1 34 227 33,st 4 4 32,mv 5 34] [4,5])
 .ret)
 .skip))
 (.seq (.FJ [8] 17 [mv 36 0,nc 37 36,fa 38 0 37,i1 39 (.bW [.sl false 1 0 []] false (.t 38)),fa 40 2 6,ld 41 1 40,mv 42 0,nc 43 42,fa 44 2 43,i1 45 (.bW [.bool false] false (.t 44)),c3 46 127 39 41 45,lj 35 46,ex 47 35 0,ex 48 35 1,i1 8 (.aQ jY),st 8 8 47,mv 7 48] [0,3,4,6,7,8])
 (.seq (aj [mv 49 7,bn 50 .neq 49 0,mv 51 50,fg 52 51 false 0 8,lg 53 51 false 1 52,jz 54 51 false .neq 53 6,po 55 51 54,mv 56 55,fg 57 56 false 7 8,lg 58 56 false 1 57,cQ 59 56 false (.bin .neq (.t 58) (.c (.str [82]))),po 60 56 59] [0,3,4,6,7,8,60]
 (.cond (.t 60) (.seq (.cU (some 3) [lm 61 4 3,mv 62 7,c1 63 227 62,st 4 4 61,mv 5 63] [4,5])
 .ret)
 .skip))
 (.seq (aj [fa 64 1 3,ld 65 1 64,bn 66 .lss 65 1,mv 67 66,fg 68 67 false 1 3,lg 69 67 false 1 68,jz 70 67 false .gtr 69 4096,po 71 67 70,mv 72 71,fg 73 72 false 3 6,fg 74 72 false 1 73,lg 75 72 false 1 74,jz 76 72 false .neq 75 0,po 77 72 76] [0,3,4,8,77]
 (.cond (.t 77) (aj [lm 78 4 3,st 4 4 78,mi 5 26] [4,5]
 .ret)
 .skip))
 (aj [mv 79 0,fa 80 2 8,ld 81 1 80,nc 82 79,fa 83 1 82,st 1 83 81] [3,4]
 (aj [fa 84 1 3,ld 85 1 84,i1 86 (.build iC [(0,1,(.c (.int .i64 8))),(1,1,(.t 85))]),st 4 4 86,mi 5 0] [4,5]
 .ret))))))))
def lS:List bj:=[⟨4,false,some (4,true)⟩,⟨5,true,none⟩]
theorem u6:bG Go.Proofs.Tryz.prog 184 87 lS mL=true:=by kernel_rfl
theorem ve{s_0 v_1}{B0:Nat}{s:ab}{Q:List AV→ab→Prop}(hB0:s B0=some (.cells [.sl false 1 s_0.b_.length (flat s_0.b_),.int .i64 s_0.at_,.bool s_0.aE,s_0.open_])):ok (eL s_0 v_1) (fun r=>Q [.agg [.int .i64 r.1.Kind,.int .i64 r.1.N,.str r.1.S.b,.sl false 4 r.1.L.length (flat r.1.L)],.int .i64 r.2.1] (s.set B0 (.cells [.sl false 1 r.2.2.b_.length (flat r.2.2.b_),.int .i64 r.2.2.at_,.bool r.2.2.aE,r.2.2.open_])))→FN Go.Proofs.Tryz.prog 184 [.ref B0 0,.agg [.int .i64 v_1.Kind,.int .i64 v_1.N,.str v_1.S.b,.sl false 4 v_1.L.length (flat v_1.L)]] s Q:=by
 have hS:s=(s.set B0 (.cells [.sl false 1 s_0.b_.length (flat s_0.b_),.int .i64 s_0.at_,.bool s_0.aE,s_0.open_])):=by simp only[fu hB0]
 rw[hS]
 intro h
 refine FN.of (ay mix) u6 rfl (Nat.le_of_ble_eq_true rfl) ?_
 revert h
 rw[mL,lS,eL]
 repeat'(first
  |with_reducible exact bI
  |((with_reducible refine L9 ?_ ?_);exact rfl)
  |((with_reducible refine M7 ?_ ?_);exact rfl)
  |with_reducible refine aU ?_ ?_
  |with_reducible exact aV
  |with_reducible refine bN ?_
  |with_reducible refine ak (fun _(h:bQ s_0.b_ s_0.at_ s_0.aE=some _)=>bZ h) (fun r1=>?_)
  |with_reducible refine ae (fun _(h:bQ s_0.b_ s_0.at_ s_0.aE=some _)=>bZ h) (fun _=>rfl) (fun r1=>?_)
  |with_reducible refine ak (fun _(h:bQ s_0.b_ s_0.at_ s_0.aE=some _)=>(by refine al ?_ (bZ h);simp -implicitDefEqProofs only[go_sem,seval])) (fun r1=>?_)
  |with_reducible refine ae (fun _(h:bQ s_0.b_ s_0.at_ s_0.aE=some _)=>(by refine al ?_ (bZ h);simp -implicitDefEqProofs only[go_sem,seval])) (fun _=>rfl) (fun r1=>?_)
  |with_reducible refine bM rfl (fun _(h:gx r1.1=some _)=>ib h) (fun _=>rfl) (fun r2=>?_)
  |with_reducible refine bM rfl (fun _(h:gx r1.1=some _)=>(by refine al ?_ (ib h);simp -implicitDefEqProofs only[go_sem,seval])) (fun _=>rfl) (fun r2=>?_)
  |with_reducible refine ak (fun _(h:dE r1.2=some _)=>eX h) (fun r3=>?_)
  |with_reducible refine ae (fun _(h:dE r1.2=some _)=>eX h) (fun _=>rfl) (fun r3=>?_)
  |with_reducible refine ak (fun _(h:dE r1.2=some _)=>(by refine al ?_ (eX h);simp -implicitDefEqProofs only[go_sem,seval])) (fun r3=>?_)
  |with_reducible refine ae (fun _(h:dE r1.2=some _)=>(by refine al ?_ (eX h);simp -implicitDefEqProofs only[go_sem,seval])) (fun _=>rfl) (fun r3=>?_)
  |with_reducible refine ak (fun _(h:bQ s_0.b_ r1.1.To s_0.aE=some _)=>bZ h) (fun r4=>?_)
  |with_reducible refine ae (fun _(h:bQ s_0.b_ r1.1.To s_0.aE=some _)=>bZ h) (fun _=>rfl) (fun r4=>?_)
  |with_reducible refine ak (fun _(h:bQ s_0.b_ r1.1.To s_0.aE=some _)=>(by refine al ?_ (bZ h);simp -implicitDefEqProofs only[go_sem,seval])) (fun r4=>?_)
  |with_reducible refine ae (fun _(h:bQ s_0.b_ r1.1.To s_0.aE=some _)=>(by refine al ?_ (bZ h);simp -implicitDefEqProofs only[go_sem,seval])) (fun _=>rfl) (fun r4=>?_)
  |with_reducible refine ak (fun _(h:dE r4.2=some _)=>eX h) (fun r5=>?_)
  |with_reducible refine ae (fun _(h:dE r4.2=some _)=>eX h) (fun _=>rfl) (fun r5=>?_)
  |with_reducible refine ak (fun _(h:dE r4.2=some _)=>(by refine al ?_ (eX h);simp -implicitDefEqProofs only[go_sem,seval])) (fun r5=>?_)
  |with_reducible refine ae (fun _(h:dE r4.2=some _)=>(by refine al ?_ (eX h);simp -implicitDefEqProofs only[go_sem,seval])) (fun _=>rfl) (fun r5=>?_)
  |simp -implicitDefEqProofs only[go_sem,seval])
structure cF where
 gk:Bool
 l_:(List aa)
end Go.AB
end
section
namespace Go.AB
open Go
def Holds(s0 s:ab)(H:List (Nat×SO)):Prop:=Sub s0 s∧(∀p∈H,s p.1=some p.2∧s0 p.1=none)∧(H.map Prod.fst).Nodup
theorem Holds.perm{s0 s:ab}{H H':List (Nat×SO)}(h:Holds s0 s H)(p:H.Perm H'):Holds s0 s H':=⟨h.1,fun x hx=>h.2.1 x (p.mem_iff.2 hx),(p.map Prod.fst).nodup_iff.1 h.2.2⟩
theorem Holds.nil{s:ab}:Holds s s []:=⟨Sub.refl s,fun p hp=>by simp at hp,by simp⟩
theorem Holds.get{s0 s:ab}{k:Nat}{o:SO}{H:List (Nat×SO)}(h:Holds s0 s ((k,o)::H)):s k=some o:=(h.2.1 _ List.mem_cons_self).1
theorem Holds.mem{s0 s:ab}{k:Nat}{o:SO}{H:List (Nat×SO)}(h:Holds s0 s H)(hm:(k,o)∈H):s k=some o:=(h.2.1 _ hm).1
theorem Holds.tail{s0 s:ab}{p:Nat×SO}{H:List (Nat×SO)}(h:Holds s0 s (p::H)):Holds s0 s H:=⟨h.1,fun x hx=>h.2.1 x (List.mem_cons_of_mem _ hx),(List.nodup_cons.1 h.2.2).2⟩
theorem Holds.set{s0 s:ab}{k:Nat}{o o':SO}{H:List (Nat×SO)}(h:Holds s0 s ((k,o)::H)):Holds s0 (s.set k o') ((k,o')::H):=by
 obtain⟨h1,h2,h3⟩:=h
 have h0:=(h2 _ List.mem_cons_self).2
 refine⟨fun b x hb=>?_,fun p hp=>?_,h3⟩
 ·rw[bD (fun e=>by subst e;rw[h0]at hb;cases hb)];exact h1 b x hb
 ·rcases List.mem_cons.1 hp with rfl|hp
  ·exact⟨bK ..,h0⟩
  ·obtain⟨q1,q2⟩:=h2 p (List.mem_cons_of_mem _ hp)
   refine⟨?_,q2⟩
   rw[bD (fun e=>?_)];exact q1
   have:=(List.nodup_cons.1 h3).1
   exact this (by show k∈H.map Prod.fst;rw[←e];exact List.mem_map_of_mem hp)
theorem Holds.WE{s0 s:ab}{H:List (Nat×SO)}(h:Holds s0 s H){k:Nat}(hk:s k=none):k∉H.map Prod.fst:=by
 intro hm
 obtain⟨p,hp,rfl⟩:=List.mem_map.1 hm
 rw[(h.2.1 p hp).1]at hk;cases hk
theorem Holds.alloc{s0 s:ab}{k:Nat}{o:SO}{H:List (Nat×SO)}(h:Holds s0 s H)(hk:s k=none):Holds s0 (s.set k o) ((k,o)::H):=by
 have hn:=h.WE hk
 obtain⟨h1,h2,h3⟩:=h
 have h0:s0 k=none:=by
  cases e:s0 k with
  |none=>rfl
  |some x=>rw[h1 k x e]at hk;cases hk
 refine⟨h1.set hk,fun p hp=>?_,by rw[List.map_cons];exact List.nodup_cons.2 ⟨hn,h3⟩⟩
 rcases List.mem_cons.1 hp with rfl|hp
 ·exact⟨bK ..,h0⟩
 ·obtain⟨q1,q2⟩:=h2 p hp
  exact⟨by rw[bD (fun e=>by rw[e,hk]at q1;cases q1)];exact q1,q2⟩
theorem Holds.sub{s0 s s':ab}{H:List (Nat×SO)}(h:Holds s0 s H)(hs:Sub s s'):Holds s0 s' H:=⟨fun b o hb=>hs b o (h.1 b o hb),fun p hp=>⟨hs _ _ (h.2.1 p hp).1,(h.2.1 p hp).2⟩,h.2.2⟩
theorem Mt{s:ab}{k j:Nat}(h:j≠k):(s.del k) j=s j:=by unfold ab.del;rw[if_neg h]
theorem EI{s:ab}{k:Nat}{o:SO}(h:s k=some o):(s.del k).set k o=s:=by
 funext i
 unfold ab.set ab.del
 by_cases e:i=k
 ·subst e;simp[h]
 ·simp[e]
theorem Holds.del{s0 s:ab}{k:Nat}{o:SO}{H:List (Nat×SO)}(h:Holds s0 s ((k,o)::H)):Holds s0 (s.del k) H∧(s.del k) k=none:=by
 obtain⟨h1,h2,h3⟩:=h
 have h0:=(h2 _ List.mem_cons_self).2
 refine⟨⟨fun b x hb=>?_,fun p hp=>?_,(List.nodup_cons.1 h3).2⟩,by unfold ab.del;simp⟩
 ·rw[Mt (fun e=>by subst e;rw[h0]at hb;cases hb)];exact h1 b x hb
 ·obtain⟨q1,q2⟩:=h2 p (List.mem_cons_of_mem _ hp)
  refine⟨?_,q2⟩
  rw[Mt (fun e=>?_)];exact q1
  have:=(List.nodup_cons.1 h3).1
  exact this (by show k∈H.map Prod.fst;rw[←e];exact List.mem_map_of_mem hp)
section
variable{α:Type}[a8 α]
def mZ(r:cN)(l:List α):List (Nat×SO):=match r with
 |none=>[]
 |some (b,_,sp)=>[(b,.cells (flat l++sp))]
def Ju(r:cN)(l:List α):Prop:=match r with
 |none=>l=[]
 |some (_,cap,sp)=>0<cap∧l.length≤cap∧(flat l++sp).length=cap*a8.w α∧views sp=sp
theorem Holds.row{s0 s:ab}{r:cN}{l:List α}{H:List (Nat×SO)}(h:Holds s0 s (mZ r l++H))(hf:Ju r l):∃s1,s=fX s1 r l∧gj s1 r l∧Holds s0 s1 H:=by
 cases r with
 |none=>exact⟨s,rfl,hf,h⟩
 |some x=>
  obtain⟨b,cap,sp⟩:=x
  have h':Holds s0 s ((b,.cells (flat l++sp))::H):=h
  obtain⟨h1,h2⟩:=h'.del
  exact⟨s.del b,(EI h'.get).symm,⟨h2,hf⟩,h1⟩
theorem Holds.RD{s0 s1:ab}{r:cN}{l:List α}{H:List (Nat×SO)}(h:Holds s0 s1 H)(ho:gj s1 r l):Holds s0 (fX s1 r l) (mZ r l++H)∧Ju r l:=by
 cases r with
 |none=>exact⟨h,ho⟩
 |some x=>
  obtain⟨b,cap,sp⟩:=x
  exact⟨h.alloc ho.1,ho.2⟩
end
end Go.AB
end
section
set_option maxRecDepth 4000
namespace Go.AB
open Go
attribute[-go_sem] Nat.add_zero pN dc
def j8:IC:=
 (aj [dT 2 (.bool false)] [0]
 (aj [mv 3 0,nc 4 3,fa 5 0 4,i1 6 (.bW [.bool false] false (.t 5)),mv 7 6,b6 8 0 7 true,cQ 9 7 true (.nilCheck (.t 8)),fg 10 7 true 1 9,cQ 11 7 true (.bW [.sl false 4 0 []] false (.t 10)),cQ 12 7 true (.len 0 (.t 11)),jz 13 7 true .rem 12 2,jz 14 7 true .eql 13 0,pf 15 7 14,mv 2 15] [2]
 .ret))
def jR:List bj:=[⟨2,true,none⟩]
theorem qX:bG Go.Proofs.Tryz.prog 181 16 jR j8=true:=by kernel_rfl
def mM:IC:=
 (aj [dT 2 (.dG)] [0]
 (.seq (aj [mv 3 0,nc 4 3,fa 5 3 4,i1 6 (.bW [.sl false 1 0 []] false (.t 5)),le 7 0 6,bn 8 .eql 7 0] [0,8]
 (.cond (.t 8) (aj [dT 2 (.dG)] [2]
 .ret)
 .skip))
 (.seq (.cU (some 13) [mv 9 0,nc 10 9,fa 11 3 10,i1 12 (.bW [.sl false 1 0 []] false (.t 11)),mv 13 0,nc 14 13,fa 15 3 14,i1 16 (.bW [.sl false 1 0 []] false (.t 15)),le 17 0 16,bn 18 .sub 17 1,ia 19 [.dG] 12 18,i1 20 (.bW [.dG] false (.t 19)),mv 2 20] [2])
 .ret)))
def lT:List bj:=[⟨2,true,none⟩]
theorem u7:bG Go.Proofs.Tryz.prog 76 21 lT mM=true:=by kernel_rfl
def kV:IC:=
 (aj [mi 4 0] [0,1]
 (.seq (aj [mv 6 0,c1 7 76 6,mv 5 7] [0,1,5]
 (.seq (.cU (some 5) [mv 8 5,i1 9 (.F4 true (.t 8) (.c (.dG))),mv 10 9,b6 11 5 10 true,FC 12 10 true 181 11,pf 13 10 12] [0,1,13])
 (.cond (.t 13) (aj [mi 4 11] [4]
 .ret)
 .skip)))
 (.seq (aj [mv 14 0,nc 15 14,fa 16 3 15,ld 17 1 16,le 18 0 17,bn 19 .geq 18 64] [0,1,19]
 (.cond (.t 19) (aj [mi 4 15] [4]
 .ret)
 .skip))
 (aj [mv 20 0,mv 21 0,nc 22 21,fa 23 3 22,ld 24 1 23,mv 25 1,i1 26 (.build [.bool false,.arr 0 0 0 0] [(0,1,(.t 25))]),i1 27 (.qU 2 (.t 26)),i1 28 (.b5 1 1 [.dG] [(0,1,(.t 27))]),i1 29 (.gh 1 8 [.dG] (.t 24) (.t 28)),nc 30 20,fa 31 3 30,st 1 31 29] []
 (aj [mi 4 0] [4]
 .ret)))))
def ki:List bj:=[⟨4,true,none⟩]
theorem sc:bG Go.Proofs.Tryz.prog 128 32 ki kV=true:=by kernel_rfl
def mK:IC:=
 (aj [i1 4 (.aQ iC),mi 5 0] [0,1,4]
 (aj [mv 9 0,c1 10 76 9,mv 6 10] [0,1,4,6]
 (.seq (.block 0 (aj [mv 12 6,i1 13 (.F4 false (.t 12) (.c (.dG))),mv 14 13,b6 15 6 14 false,cQ 16 14 false (.nilCheck (.t 15)),fg 17 14 false 0 16,lg 18 14 false 1 17,b6 19 1 14 false,cQ 20 14 false (.QO true (.t 18) (.t 19)),po 21 14 20,mv 22 21,b6 23 1 22 false,b6 24 23 22 false,b6 25 6 24 true,FC 26 24 true 181 25,cQ 27 24 true (.un .not (.t 26)),cQ 28 22 false (.pick (.t 24) (.t 27) (.c (.bool false))),po 29 22 28,mv 11 29] [0,1,4,6,11]
 (.cond (.t 11) (aj [i1 30 (.build iC []),st 4 4 30,mi 5 11] [4,5]
 .ret)
 (aj [mv 32 1,no 33 32,mv 31 33] [0,4,6,31]
 (.cond (.t 31) (.seq (.cU (some 14) [mv 34 0,mv 35 0,nc 36 35,fa 37 3 36,ld 38 1 37,mv 39 0,nc 40 39,fa 41 3 40,ld 42 1 41,le 43 0 42,bn 44 .sub 43 1,Ts 45 1 38 44,nc 46 34,fa 47 3 46,st 1 47 45] [4,6])
 (aj [mv 48 6,nc 49 48,fa 50 1 49,i1 51 (.ug 4 false (.t 50)),i1 52 (.build iC [(0,1,(.c (.int .i64 6))),(3,1,(.t 51))]),st 4 4 52,mi 5 0] [4,5]
 .ret))
 .skip)))))
 (aj [mv 54 6,nc 55 54,fa 56 1 55,i1 57 (.ug 4 false (.t 56)),c1 58 182 57,lj 53 58,ex 59 53 0,ex 60 53 1,mv 7 59,mv 8 60] [0,4,7,8]
 (.seq (aj [mv 61 8,bn 62 .neq 61 0] [0,4,7,8,62]
 (.cond (.t 62) (aj [i1 63 (.build iC []),mv 64 8,st 4 4 63,mv 5 64] [4,5]
 .ret)
 .skip))
 (.seq (.cU (some 14) [mv 65 0,mv 66 0,nc 67 66,fa 68 3 67,ld 69 1 68,mv 70 0,nc 71 70,fa 72 3 71,ld 73 1 72,le 74 0 73,bn 75 .sub 74 1,Ts 76 1 69 75,nc 77 65,fa 78 3 77,st 1 78 76] [4,7])
 (aj [mv 79 7,i1 80 (.build iC [(0,1,(.c (.int .i64 7))),(3,1,(.t 79))]),st 4 4 80,mi 5 0] [4,5]
 .ret)))))))
def lR:List bj:=[⟨4,false,some (4,true)⟩,⟨5,true,none⟩]
theorem u5:bG Go.Proofs.Tryz.prog 129 81 lR mK=true:=by kernel_rfl
def j9:IC:=
 (aj [i1 3 (.lZ 8 (.t 1)),i1 4 (.aQ iC),mi 5 0] [0,3,4]
 (.seq (aj [mv 7 0,c1 8 76 7,mv 6 8] [0,3,4,6]
 (aj [mv 9 6,i1 10 (.F4 true (.t 9) (.c (.dG))),mv 11 10,b6 12 6 11 true,FC 13 11 true 181 12,pf 14 11 13,mv 15 14,fg 16 15 true 0 3,lg 17 15 true 1 16,jz 18 15 true .neq 17 1,b6 19 18 15 true,fg 20 19 false 3 3,fg 21 19 false 0 20,lg 22 19 false 1 21,jz 23 19 false .neq 22 5,cQ 24 15 true (.pick (.t 19) (.c (.bool true)) (.t 23)),pf 25 15 24] [0,3,4,25]
 (.cond (.t 25) (aj [i1 26 (.build iC []),st 4 4 26,mi 5 11] [4,5]
 .ret)
 .skip)))
 (.seq (.block 0 (aj [fa 28 0 3,ld 29 1 28,bn 30 .eql 29 6,mv 27 30] [0,3,4,27]
 (.cond (.t 27) (aj [fa 31 7 3,ld 32 1 31,c1 33 183 32,ex 34 33 0,ex 35 33 1,st 4 4 34,mv 5 35] [4,5]
 .ret)
 (aj [lm 37 8 3,c1 38 124 37,mv 36 38] [0,3,4,36]
 (.cond (.t 36) (aj [mv 39 0,fa 40 3 3,lm 41 4 40,c2 42 184 39 41,ex 43 42 0,ex 44 42 1,st 4 4 43,mv 5 44] [4,5]
 .ret)
 .skip)))))
 (aj [fa 45 3 3,lm 46 4 45,st 4 4 46,mi 5 0] [4,5]
 .ret))))
def jS:List bj:=[⟨4,false,some (4,true)⟩,⟨5,true,none⟩]
theorem qY:bG Go.Proofs.Tryz.prog 130 47 jS j9=true:=by kernel_rfl
def lJ:IC:=
 (aj [i1 3 (.lZ 8 (.t 1)),i1 4 (.aQ iC),dT 5 (.bool false),mi 6 0] [0,3,4]
 (aj [i1 7 (.aQ iC)] [0,3,4,7]
 (aj [mi 8 0] [0,3,4,7]
 (.seq (aj [fa 9 0 3,ld 10 1 9] [0,3,4,7,10]
 (.block 0 (aj [bn 28 .eql 10 0,mv 27 28] [0,3,4,7,10,27]
 (.cond (.t 27) (aj [lm 29 4 7,st 4 4 29,dT 5 (.bool false),mi 6 10] [4,5,6]
 .ret)
 (.seq (aj [bn 31 .eql 10 2,mv 30 31] [0,3,4,7,10,30]
 (.cond (.t 30) .skip
 (.cU none [bn 32 .eql 10 4,mv 30 32] [0,3,4,7,10,30])))
 (.cond (.t 30) (.seq (.FI [4] [(1,0,lm 33 4 7),(0,1,mv 34 0),(0,2,fa 35 0 3),(0,3,ld 36 1 35),(0,4,bn 37 .eql 36 4),(2,5,c2 38 128 34 37),(0,6,st 4 4 33),(0,7,dT 5 (.bool false)),(0,8,mv 6 38)] [4,5,6])
 .ret)
 (.seq (aj [bn 40 .eql 10 3,mv 39 40] [0,3,4,7,10,39]
 (.cond (.t 39) .skip
 (.cU none [bn 41 .eql 10 5,mv 39 41] [0,3,4,7,39])))
 (.cond (.t 39) (.cU none [mv 43 0,fa 44 0 3,ld 45 1 44,bn 46 .eql 45 5,c2 47 129 43 46,lj 42 47,ex 48 42 0,ex 49 42 1,st 4 7 48,mv 8 49] [4,7,8])
 (aj [mv 12 0,lm 13 8 3,c2 14 130 12 13,lj 11 14,ex 15 11 0,ex 16 11 1,st 4 7 15,mv 8 16] [0,4,7,8]
 (aj [mv 17 8,bn 18 .eql 17 0,mv 19 18,b6 20 0 19 true,cQ 21 19 true (.nilCheck (.t 20)),fg 22 19 true 3 21,lg 23 19 true 1 22,cQ 24 19 true (.len 0 (.t 23)),jz 25 19 true .geq 24 64,pf 26 19 25] [4,7,8,26]
 (.cond (.t 26) (.cU none [mi 8 15] [4,7,8])
 .skip)))))))))))
 (aj [lm 50 4 7,mv 51 8,bn 52 .eql 51 0,mv 53 8,st 4 4 50,mv 5 52,mv 6 53] [4,5,6]
 .ret)))))
def lr:List bj:=[⟨4,false,some (4,true)⟩,⟨5,true,none⟩,⟨6,true,none⟩]
theorem tI:bG Go.Proofs.Tryz.prog 75 54 lr lJ=true:=by kernel_rfl
structure HU where
 n:Option Nat
def HU.c(x:HU):AV:=match x.n with
 |none=>.dG
 |some b=>.ref b 0
instance:a8 HU:=⟨1,fun x=>[x.c],⟨none⟩,by decide,fun _=>rfl,fun x=>by obtain⟨_|b⟩:=x<;>rfl⟩
def refs(ids:List (Nat×cN)):List HU:=ids.map fun i=>⟨some i.1⟩
def M5(r:cN)(v:cF):SO:=.cells [.bool v.gk,gL r v.l_.length]
def UC(id:Nat×cN)(v:cF):List (Nat×SO):=(id.1,M5 id.2 v)::mZ id.2 v.l_
def zo:List (Nat×cN)→List cF→List (Nat×SO)
 |id::ids,v::vs=>UC id v++zo ids vs
 |_,_=>[]
def Pf:List (Nat×cN)→List cF→Prop
 |id::ids,v::vs=>Ju id.2 v.l_∧Pf ids vs
 |[],[]=>True
 |_,_=>False
theorem oW:∀{ids:List (Nat×cN)}{vs:List cF},Pf ids vs→ids.length=vs.length
 |[],[],_=>rfl
 |_::ids,_::vs,h=>by rw[List.length_cons,List.length_cons,oW h.2]
 |[],_::_,h=>h.elim
 |_::_,[],h=>h.elim
structure PS where
 b:List UInt8
 at_:Int
 last:Bool
 st:List cF
def ij(p:PS)(rr:cN):List AV:=[.sl false 1 p.b.length (flat p.b),.int .i64 p.at_,.bool p.last,gL rr p.st.length]
def pF(s0 s:ab)(B:Nat)(p:PS)(rr:cN)(ids:List (Nat×cN)):Prop:=Pf ids p.st∧Ju rr (refs ids.reverse)∧Holds s0 s ((B,.cells (ij p rr))::(mZ rr (refs ids.reverse)++zo ids p.st))
theorem pa(ids:List (Nat×cN)):(refs ids).length=ids.length:=by unfold refs;simp
theorem pF.cell{s0 s:ab}{B:Nat}{p:PS}{rr:cN}{ids:List (Nat×cN)}(h:pF s0 s B p rr ids):s B=some (.cells (ij p rr)):=h.2.2.get
theorem pF.ref{s0 s:ab}{B:Nat}{p:PS}{rr:cN}{id:Nat×cN}{ids:List (Nat×cN)}(h:pF s0 s B p rr (id::ids)):
 ∃rb cap sp,rr=some (rb,cap,sp)∧s rb=some (.cells (flat (refs (id::ids).reverse)++sp))∧(flat (refs (id::ids).reverse)++sp)[ids.length]? =some (.ref id.1 0):=by
 obtain⟨h1,h2,h3⟩:=h
 have hl:0<(refs (id::ids).reverse).length:=by rw[pa];simp
 cases rr with
 |none=>rw[show refs (id::ids).reverse=[] from h2]at hl;simp at hl
 |some x=>
  obtain⟨rb,cap,sp⟩:=x
  refine⟨rb,cap,sp,rfl,h3.mem (by simp[mZ]),?_⟩
  have hi:ids.length<(refs (id::ids).reverse).length:=by rw[pa];simp
  have:=uR (refs (id::ids).reverse) sp (i:=ids.length) (r:=0) hi (by decide)
  rw[show ids.length*a8.w HU+0=ids.length by show ids.length*1+0=_;omega]at this
  rw[this]
  have e:(refs (id::ids).reverse)[ids.length]=⟨some id.1⟩:=by
   unfold refs
   simp
  rw[e];rfl
theorem Ky{cs:List AV}{off:Nat}{a:AV}(h:cs[off]? =some a):off+1≤cs.length∧AB.sub cs off 1=[a]:=by
 obtain⟨h1,h2⟩:=List.getElem?_eq_some_iff.1 h
 refine⟨h1,?_⟩
 unfold AB.sub
 rw[List.drop_eq_getElem_cons h1,h2];rfl
theorem Lf{cs:List AV}{off b:Nat}(h:cs[off]? =some (.ref b 0)):G9 [.dG] false off (some (.cells cs))=.prt (off+1≤cs.length) (.ref b 0):=by
 show QG _ (lF false (pad [.dG] (views (AB.sub cs off 1))))=_
 rw[(Ky h).2]
 rfl
theorem FY{s0 s:ab}{B:Nat}{p:PS}{rr:cN}{ids:List (Nat×cN)}(h:pF s0 s B p rr ids)(hroom:p.st.length≤room){Q:List AV→ab→Prop}(hn:p.st=[]→Q [.dG] s)
 (hc:∀id ids' v vs,ids=id::ids'→p.st=v::vs→Q [.ref id.1 0] s):FN Go.Proofs.Tryz.prog 76 [.ref B 0] s Q:=by
 have hB:=h.cell
 have hlen:=oW h.1
 refine FN.of (ay mix) u7 rfl (Nat.le_of_ble_eq_true rfl) ?_
 rw[mM,lT]
 unfold ij at hB
 simp -implicitDefEqProofs only[go_sem,start,ag,an,aA,aD,aB,aC,Nat.reduceBEq,Nat.reduceAdd,Nat.reduceMul,Nat.reduceLeDiff,Nat.reduceEqDiff,Nat.reduceBNe,Nat.ble_eq,UInt8.reduceToNat,UInt32.reduceToNat,hB]
 refine⟨fun he=>hn (List.eq_nil_of_length_eq_zero (by simpa using he)),fun hne=>?_⟩
 have hne:p.st.length≠0:=by simpa using hne
 cases c6:p.st with
 |nil=>rw[c6]at hne;exact absurd rfl hne
 |cons v vs=>
 cases ids with
 |nil=>rw[c6]at hlen;simp at hlen
 |cons id ids'=>
 obtain⟨rb,cap,sp,rfl,h1,h2⟩:=h.ref
 have hl:p.st.length=ids'.length+1:=by rw[←hlen];rfl
 rw[←c6]
 have hr:room=140737488355328:=rfl
 have hw:az ((p.st.length:Int) -1)=(ids'.length:Int):=by rw[aM (by omega) (by omega)];omega
 rw[hw]
 refine⟨by omega,?_⟩
 show qK _ _ _ (G9 _ _ _ (s rb))
 rw[h1,Int.toNat_natCast,Nat.mul_one,Lf h2]
 simp -implicitDefEqProofs only[go_sem,start,ag,an,aA,aD,aB,aC,Nat.reduceBEq,Nat.reduceAdd,Nat.reduceMul,Nat.reduceLeDiff,Nat.reduceEqDiff,Nat.reduceBNe,Nat.ble_eq,UInt8.reduceToNat,UInt32.reduceToNat]
 exact⟨by have:=(Ky h2).1;rwa[List.length_append]at this,hc id ids' v vs rfl c6⟩
theorem Cx{s:ab}{B n:Nat}{d:Bool}{r:cN}{Q:List AV→ab→Prop}(hB:s B=some (.cells [.bool d,gL r n]))(hq:Q [.bool (d&&((n:Int).tmod 2==0))] s):FN Go.Proofs.Tryz.prog 181 [.ref B 0] s Q:=by
 refine FN.of (ay mix) qX rfl (Nat.le_of_ble_eq_true rfl) ?_
 rw[j8,jR]
 simp -implicitDefEqProofs only[go_sem,start,ag,an,aA,aD,aB,aC,Nat.reduceBEq,Nat.reduceAdd,Nat.reduceMul,Nat.reduceLeDiff,Nat.reduceEqDiff,Nat.reduceBNe,Nat.ble_eq,UInt8.reduceToNat,UInt32.reduceToNat,hB]
 exact hq
def eJ:List cF→Bool
 |[]=>false
 |v::_=>v.gk&&((v.l_.length:Int).tmod 2==0)
theorem pF.lv{s0 s:ab}{B:Nat}{p:PS}{rr:cN}{id:Nat×cN}{ids:List (Nat×cN)}{v:cF}{vs:List cF}(h:pF s0 s B p rr (id::ids))(c6:p.st=v::vs):s id.1=some (M5 id.2 v):=by
 refine h.2.2.mem ?_
 rw[c6]
 simp[zo,UC]
theorem o8(id:Nat×cN)(ids:List (Nat×cN)):refs (id::ids).reverse=refs ids.reverse++[⟨some id.1⟩]:=by unfold refs;simp
theorem Du{σ:St}{d:Option Nat}{K:St→Prop}{s0 s:ab}{B b:Nat}{p:PS}{rr:cN}{ids:List (Nat×cN)}{dict:Bool}(h:pF s0 s B p rr ids)(hroom:p.st.length≤64)(hb:s b=none)(hσ:σ.s=s.set b (.cells [.bool dict,.arr 0 0 0 0]))
 (hK:∀s1 rr',s1 B=some (.cells (ij p rr))→(∃ids',pF s0 (s1.set B (.cells (ij {p with st:=⟨dict,[]⟩::p.st} rr'))) B {p with st:=⟨dict,[]⟩::p.st} rr' ids')→K ({σ with s:=s1}.put d (gL rr' (p.st.length+1)))):
 eA 1 8 [.dG] σ d K (gL rr p.st.length) (tL σ.s 1 (.sl true 1 1 [.ref b 0])):=by
 obtain⟨h1,h2,h3⟩:=h
 have hlen:=oW h1
 have hr:room=140737488355328:=rfl
 have hl:(refs ids.reverse).length=p.st.length:=by rw[pa];simp[hlen]
 have H0:=h3.alloc (o:=.cells [.bool dict,.arr 0 0 0 0]) hb
 have H0':Holds s0 (s.set b (.cells [.bool dict,.arr 0 0 0 0])) (mZ rr (refs ids.reverse)++([(b,.cells [.bool dict,.arr 0 0 0 0]),(B,.cells (ij p rr))]++zo ids p.st)):=H0.perm (List.perm_append_comm_assoc [(b,SO.cells [.bool dict,.arr 0 0 0 0]),(B,SO.cells (ij p rr))] _ _)
 obtain⟨s1,e,ok,H1⟩:=H0'.row h2
 rw[kL,←hl]
 refine s5 (z:=(⟨none⟩:HU)) (v:=(⟨some b⟩:HU)) (hσ.trans e) ok rfl (by rw[hl];omega) fun s' r' hs' ok'=>?_
 rw[hl]
 obtain⟨H2,hf⟩:=(H1.sub hs').RD ok'
 have H3:Holds s0 (fX s' r' (refs ids.reverse++[⟨some b⟩])) ((B,.cells (ij p rr))::(mZ r' (refs ids.reverse++[⟨some b⟩])++((b,.cells [.bool dict,.arr 0 0 0 0])::zo ids p.st))):=by
  refine H2.perm ?_
  refine(List.perm_append_comm_assoc _ [(b,SO.cells [.bool dict,.arr 0 0 0 0]),(B,SO.cells (ij p rr))] _).trans ?_
  refine(List.Perm.swap ..).trans ?_
  refine List.Perm.cons _ ?_
  exact List.perm_append_comm_assoc [(b,SO.cells [.bool dict,.arr 0 0 0 0])] _ _
 refine hK _ r' H3.get ⟨(b,none)::ids,⟨rfl,h1⟩,?_,?_⟩
 ·rw[o8];exact hf
 ·rw[o8]
  exact H3.set
theorem Mc{s0 s:ab}{B:Nat}{p:PS}{rr:cN}{ids:List (Nat×cN)}(h:pF s0 s B p rr ids)(hroom:p.st.length≤64){dict:Bool}{Q:List AV→ab→Prop}(he:eJ p.st=true→Q [.int .i64 11] s)
 (hd:eJ p.st=false→64≤p.st.length→Q [.int .i64 15] s)
 (hk:eJ p.st=false→p.st.length<64→∀s' rr' ids',pF s0 s' B {p with st:=⟨dict,[]⟩::p.st} rr' ids'→Q [.int .i64 0] s'):FN Go.Proofs.Tryz.prog 128 [.ref B 0,.bool dict] s Q:=by
 have hB:=h.cell
 have hlen:=oW h.1
 have hr:room=140737488355328:=rfl
 have rest:eJ p.st=false→∀(Q':Prop),Q'→Q':=fun _ _ x=>x
 refine FN.of (ay mix) sc rfl (Nat.le_of_ble_eq_true rfl) ?_
 rw[kV,ki]
 unfold ij at hB
 simp -implicitDefEqProofs only[go_sem,start,ag,an,aA,aD,aB,aC,Nat.reduceBEq,Nat.reduceAdd,Nat.reduceMul,Nat.reduceLeDiff,Nat.reduceEqDiff,Nat.reduceBNe,Nat.ble_eq,UInt8.reduceToNat,UInt32.reduceToNat]
 refine FY h (by omega) (fun c6=>?_) (fun id ids' v vs hids c6=>?_)
 ·simp -implicitDefEqProofs only[go_sem,start,ag,an,aA,aD,aB,aC,Nat.reduceBEq,Nat.reduceAdd,Nat.reduceMul,Nat.reduceLeDiff,Nat.reduceEqDiff,Nat.reduceBNe,Nat.ble_eq,UInt8.reduceToNat,UInt32.reduceToNat,hB]
  refine⟨[.bool false],rfl,fun h=>(by cases h),?_⟩
  have hw:eJ p.st=false:=by rw[c6];rfl
  simp -implicitDefEqProofs only[go_sem,start,ag,an,aA,aD,aB,aC,Nat.reduceBEq,Nat.reduceAdd,Nat.reduceMul,Nat.reduceLeDiff,Nat.reduceEqDiff,Nat.reduceBNe,Nat.ble_eq,UInt8.reduceToNat,UInt32.reduceToNat,hB,Bool.false_and,Bool.and_false]
  refine⟨fun hx=>he (by first|exact hx|exact absurd hx id),fun hx=>?_⟩
  have hw:eJ p.st=false:=by first|exact hw|exact hx
  refine⟨fun hx=>hd hw (by have:=of_decide_eq_true hx;omega),fun hx b hb=>?_⟩
  have hlt:p.st.length<64:=by have:=of_decide_eq_false hx;omega
  refine Du h hroom hb rfl fun s1 rr' hB1⟨ids',hst'⟩=>?_
  unfold ij at hB1
  simp -implicitDefEqProofs only[go_sem,start,ag,an,aA,aD,aB,aC,Nat.reduceBEq,Nat.reduceAdd,Nat.reduceMul,Nat.reduceLeDiff,Nat.reduceEqDiff,Nat.reduceBNe,Nat.ble_eq,UInt8.reduceToNat,UInt32.reduceToNat,hB1]
  exact hk hw hlt _ _ _ hst'
 ·simp -implicitDefEqProofs only[go_sem,start,ag,an,aA,aD,aB,aC,Nat.reduceBEq,Nat.reduceAdd,Nat.reduceMul,Nat.reduceLeDiff,Nat.reduceEqDiff,Nat.reduceBNe,Nat.ble_eq,UInt8.reduceToNat,UInt32.reduceToNat,hB]
  subst hids
  have hlv:=h.lv c6
  refine⟨[.bool (eJ p.st)],rfl,fun _=>⟨_,rfl,Cx hlv (by rw[c6];exact⟨rfl,rfl⟩)⟩,?_⟩
  simp -implicitDefEqProofs only[go_sem,start,ag,an,aA,aD,aB,aC,Nat.reduceBEq,Nat.reduceAdd,Nat.reduceMul,Nat.reduceLeDiff,Nat.reduceEqDiff,Nat.reduceBNe,Nat.ble_eq,UInt8.reduceToNat,UInt32.reduceToNat,hB,Bool.true_and,Bool.and_true]
  refine⟨fun hx=>he (by first|exact hx|exact absurd hx id),fun hx=>?_⟩
  have hw:eJ p.st=false:=by first|exact hw|exact hx
  refine⟨fun hx=>hd hw (by have:=of_decide_eq_true hx;omega),fun hx b hb=>?_⟩
  have hlt:p.st.length<64:=by have:=of_decide_eq_false hx;omega
  refine Du h hroom hb rfl fun s1 rr' hB1⟨ids',hst'⟩=>?_
  unfold ij at hB1
  simp -implicitDefEqProofs only[go_sem,start,ag,an,aA,aD,aB,aC,Nat.reduceBEq,Nat.reduceAdd,Nat.reduceMul,Nat.reduceLeDiff,Nat.reduceEqDiff,Nat.reduceBNe,Nat.ble_eq,UInt8.reduceToNat,UInt32.reduceToNat,hB1]
  exact hk hw hlt _ _ _ hst'
theorem VS{σ:St}{d:Option Nat}{K:St→Prop}{s0:ab}{R:List (Nat×SO)}{r:cN}{l:List aa}(hσ:Holds s0 σ.s (mZ r l++R))(hf:Ju r l)
 (hK:∀s2,Holds s0 s2 R→K ({σ with s:=s2}.put d (.sl false 4 l.length (flat l)))):y8 4 false σ d K (gL r l.length):=by
 cases r with
 |none=>
  obtain rfl:l=[]:=hf
  exact .inl ⟨rfl,rfl,rfl,hK σ.s hσ⟩
 |some x=>
  obtain⟨b,cap,sp⟩:=x
  obtain⟨f1,f2,f3,f4⟩:=hf
  have hσ':Holds s0 σ.s ((b,.cells (flat l++sp))::R):=hσ
  refine .inr ⟨f1,f2,fun h=>(by cases h),?_⟩
  have hle:0+l.length*4≤(flat l++sp).length:=by rw[f3,Nat.zero_add];exact Nat.mul_le_mul_right _ f2
  have hc:ja l.length 4 0 (σ.s b)=some (l.length,flat l):=by
   rw[hσ'.get]
   unfold ja
   simp only[decide_eq_true hle,cond_true]
   have:=nU l sp 4 0 l.length rfl (by omega)
   rw[Nat.zero_mul]at this
   rw[this,List.drop_zero,List.take_length,cm]
  show y8.frzK 4 false σ d K b l.length (ja l.length 4 0 (σ.s b))
  rw[hc]
  exact hK _ hσ'.del.1
theorem pF.pop{s0 s:ab}{B:Nat}{p:PS}{rr:cN}{id:Nat×cN}{ids:List (Nat×cN)}{v:cF}{vs:List cF}(h:pF s0 s B p rr (id::ids))(c6:p.st=v::vs):
 ∃rr',HC rr'=HC rr∧FK rr'=FK rr∧Ju rr' (refs ids.reverse)∧Pf ids vs∧Ju id.2 v.l_∧Holds s0 s ((B,.cells (ij p rr))::(mZ rr' (refs ids.reverse)++(UC id v++zo ids vs))):=by
 have hr:=h.ref
 obtain⟨rb,cap,sp,rfl,_,_⟩:=hr
 obtain⟨h1,h2,h3⟩:=h
 rw[c6]at h1 h3
 obtain⟨f1,f2,f3,f4⟩:=h2
 have e:flat (refs (id::ids).reverse)++sp=flat (refs ids.reverse)++(.ref id.1 0::sp):=by rw[o8,eV,List.append_assoc];rfl
 refine⟨some (rb,cap,.ref id.1 0::sp),rfl,rfl,⟨f1,?_,?_,?_⟩,h1.2,h1.1,?_⟩
 ·rw[pa]at f2⊢;simp at f2⊢;omega
 ·rw[←e];exact f3
 ·unfold views at f4⊢;rw[List.map_cons,f4];rfl
 ·unfold mZ at h3⊢
  simp only[]at h3⊢
  rw[←e]
  exact h3
theorem Ke{s0 s:ab}{X:Nat×SO}{R T:List (Nat×SO)}{id:Nat×cN}{v:cF}(h:Holds s0 s (X::(R++(UC id v++T)))):Holds s0 s (mZ id.2 v.l_++(X::(R++T))):=by
 have p1:(X::(R++(UC id v++T))).Perm ((id.1,M5 id.2 v)::((X::R)++(mZ id.2 v.l_++T))):=List.perm_middle (l₁:=X::R)
 have p2:((X::R)++(mZ id.2 v.l_++T)).Perm (mZ id.2 v.l_++((X::R)++T)):=List.perm_append_comm_assoc ..
 exact(h.perm p1).tail.perm p2
def Oh:List AV:=[.int .i64 0,.int .i64 0,.str [],.sl false 4 0 []]
def rB(st:List cF)(dict:Bool):Bool:=match st with
 |[]=>true
 |v::_=>(v.gk !=dict)||(dict&&!eJ st)
abbrev vC(pf:List aa→Option (List aa×Int)):Prop:=∀(s:ab)(l:List aa)(r:List aa×Int),pf l=some r→FE Go.Proofs.Tryz.prog 182 [.sl false 4 l.length (flat l)] s [.sl false 4 r.1.length (flat r.1),.int .i64 r.2] s
@[go_sem]theorem M9:ku .dG=.no:=rfl
@[go_sem]theorem LU(o:Nat)(x:IX):fQ o x (.gu [])=.no:=rfl
@[go_sem]theorem YE(σ:St)(n:Nat):rd σ (.gu []) n=none:=rfl
@[go_sem]theorem XC(op:UnOp):RC op (.gu [])=.no:=by cases op<;>rfl
@[go_sem]theorem T1(ne:Bool)(y:AV):IB ne (.gu []) y=.no:=rfl
theorem R7{pf:List aa→Option (List aa×Int)}(hpf:vC pf){s0 s:ab}{B:Nat}{p:PS}{rr:cN}{ids:List (Nat×cN)}(h:pF s0 s B p rr ids)(hroom:p.st.length≤64){dict:Bool}{Q:List AV→ab→Prop}
 (h0:rB p.st dict=true→Q [.agg Oh,.int .i64 11] s)
 (hA:∀v vs,p.st=v::vs→dict=false→rB p.st dict=false→∀s' rr' ids',pF s0 s' B {p with st:=vs} rr' ids'→Q [.agg [.int .i64 6,.int .i64 0,.str [],.sl false 4 v.l_.length (flat v.l_)],.int .i64 0] s')
 (hD:∀v vs,p.st=v::vs→dict=true→rB p.st dict=false→ok (pf v.l_) fun r=>(r.2≠0→∀s',Sub s0 s'→Q [.agg Oh,.int .i64 r.2] s')∧
   (r.2=0→∀s' rr' ids',pF s0 s' B {p with st:=vs} rr' ids'→Q [.agg [.int .i64 7,.int .i64 0,.str [],.sl false 4 r.1.length (flat r.1)],.int .i64 0] s')):FN Go.Proofs.Tryz.prog 129 [.ref B 0,.bool dict] s Q:=by
 have hB:=h.cell
 have hlen:=oW h.1
 have hr:room=140737488355328:=rfl
 refine FN.of (ay mix) u5 rfl (Nat.le_of_ble_eq_true rfl) ?_
 rw[mK,lR]
 unfold ij at hB
 simp -implicitDefEqProofs only[go_sem,start,ag,an,aA,aD,aB,aC,Nat.reduceBEq,Nat.reduceAdd,Nat.reduceMul,Nat.reduceLeDiff,Nat.reduceEqDiff,Nat.reduceBNe,Nat.ble_eq,UInt8.reduceToNat,UInt32.reduceToNat]
 refine FY h (by omega) (fun c6=>?_) (fun id ids' v vs hids c6=>?_)
 ·have hbad:rB p.st dict=true:=by rw[c6];rfl
  simp -implicitDefEqProofs only[go_sem,start,ag,an,aA,aD,aB,aC,Nat.reduceBEq,Nat.reduceAdd,Nat.reduceMul,Nat.reduceLeDiff,Nat.reduceEqDiff,Nat.reduceBNe,Nat.ble_eq,UInt8.reduceToNat,UInt32.reduceToNat,hB,Bool.true_eq_false,false_implies,true_implies,true_and]
  exact h0 hbad
 ·subst hids
  have hlv:=h.lv c6
  unfold M5 at hlv
  have hbd:rB p.st dict=((v.gk !=dict)||(dict&&!eJ p.st)):=by rw[c6];rfl
  have htw:eJ p.st=(v.gk&&((v.l_.length:Int).tmod 2==0)):=by rw[c6];rfl
  simp -implicitDefEqProofs only[go_sem,start,ag,an,aA,aD,aB,aC,Nat.reduceBEq,Nat.reduceAdd,Nat.reduceMul,Nat.reduceLeDiff,Nat.reduceEqDiff,Nat.reduceBNe,Nat.ble_eq,UInt8.reduceToNat,UInt32.reduceToNat,hB]
  cases hdv:v.gk<;>cases dict
  all_goals(rw[hdv]at hlv;simp -implicitDefEqProofs only[go_sem,start,ag,an,aA,aD,aB,aC,Nat.reduceBEq,Nat.reduceAdd,Nat.reduceMul,Nat.reduceLeDiff,Nat.reduceEqDiff,Nat.reduceBNe,Nat.ble_eq,UInt8.reduceToNat,UInt32.reduceToNat,hB,hlv,Bool.true_eq_false,Bool.false_eq_true,false_implies,true_implies,true_and,and_true,beq_self_eq_true,Bool.and_self,Bool.not_true,Bool.not_false,Bool.and_false,Bool.false_and,Bool.and_true,Bool.true_and])
  ·have hbf:rB p.st false=false:=by rw[hbd,hdv];rfl
   obtain⟨rr',e1,e2,f1,f2,f3,H⟩:=h.pop c6
   have hcap:p.st.length≤FK rr:=by
    obtain⟨rb,cap,sp,rfl,_,_⟩:=h.ref
    have:=h.2.1.2.1
    rw[pa,List.length_reverse,hlen]at this
    exact this
   have hn:p.st.length=vs.length+1:=by rw[c6];rfl
   have hw:az ((p.st.length:Int) -1)=(vs.length:Int):=by rw[aM (by omega) (by omega)];omega
   rw[hw]
   refine⟨⟨by omega,by omega,by omega⟩,?_⟩
   have H':=H.set (o':=.cells (ij {p with st:=vs} rr'))
   have es:ij {p with st:=vs} rr'=[.sl false 1 p.b.length (flat p.b),.int .i64 p.at_,.bool p.last,.arr (HC rr) 0 (vs.length:Int).toNat (FK rr)]:=by
    unfold ij gL
    rw[e1,e2];rfl
   rw[es]at H'
   have hl2:=H'.mem (k:=id.1) (o:=M5 id.2 v) (by simp[UC])
   rw[hl2]
   unfold M5
   simp -implicitDefEqProofs only[go_sem,start,ag,an,aA,aD,aB,aC,Nat.reduceBEq,Nat.reduceAdd,Nat.reduceMul,Nat.reduceLeDiff,Nat.reduceEqDiff,Nat.reduceBNe,Nat.ble_eq,UInt8.reduceToNat,UInt32.reduceToNat]
   refine VS (Ke H') f3 fun s2 H2=>?_
   simp -implicitDefEqProofs only[go_sem,start,ag,an,aA,aD,aB,aC,Nat.reduceBEq,Nat.reduceAdd,Nat.reduceMul,Nat.reduceLeDiff,Nat.reduceEqDiff,Nat.reduceBNe,Nat.ble_eq,UInt8.reduceToNat,UInt32.reduceToNat]
   exact hA v vs c6 rfl hbf s2 rr' ids' ⟨f2,f1,by rw[es];exact H2⟩
  ·exact h0 (by rw[hbd,hdv];rfl)
  ·exact h0 (by rw[hbd,hdv];rfl)
  ·refine Cx hlv ?_
   simp -implicitDefEqProofs only[go_sem,start,ag,an,aA,aD,aB,aC,Nat.reduceBEq,Nat.reduceAdd,Nat.reduceMul,Nat.reduceLeDiff,Nat.reduceEqDiff,Nat.reduceBNe,Nat.ble_eq,UInt8.reduceToNat,UInt32.reduceToNat,hB,hlv,Bool.true_eq_false,Bool.false_eq_true,false_implies,true_implies,true_and,and_true,beq_self_eq_true,Bool.and_self,Bool.not_true,Bool.not_false,Bool.and_false,Bool.false_and,Bool.and_true,Bool.true_and]
   have htw':eJ p.st=((v.l_.length:Int).tmod 2==0):=by rw[htw,hdv];rfl
   refine⟨fun hx=>h0 (by rw[hbd,hdv,htw'];simpa using hx),fun hx=>?_⟩
   have hbf:rB p.st true=false:=by rw[hbd,hdv,htw'];simpa using hx
   obtain⟨rr',e1,e2,f1,f2,f3,H⟩:=h.pop c6
   refine VS (Ke H) f3 fun s2 H2=>?_
   have hB2:=H2.get
   unfold ij at hB2
   obtain⟨r,hr1,hr2,hr3⟩:=hD v vs c6 rfl hbf
   simp -implicitDefEqProofs only[go_sem,start,ag,an,aA,aD,aB,aC,Nat.reduceBEq,Nat.reduceAdd,Nat.reduceMul,Nat.reduceLeDiff,Nat.reduceEqDiff,Nat.reduceBNe,Nat.ble_eq,UInt8.reduceToNat,UInt32.reduceToNat]
   refine FE.app (hpf s2 v.l_ r hr1) ⟨rfl,?_⟩
   simp -implicitDefEqProofs only[go_sem,start,ag,an,aA,aD,aB,aC,Nat.reduceBEq,Nat.reduceAdd,Nat.reduceMul,Nat.reduceLeDiff,Nat.reduceEqDiff,Nat.reduceBNe,Nat.ble_eq,UInt8.reduceToNat,UInt32.reduceToNat,hB2]
   have hcap:p.st.length≤FK rr:=by
    obtain⟨rb,cap,sp,rfl,_,_⟩:=h.ref
    have:=h.2.1.2.1
    rw[pa,List.length_reverse,hlen]at this
    exact this
   have hn:p.st.length=vs.length+1:=by rw[c6];rfl
   have hw:az ((p.st.length:Int) -1)=(vs.length:Int):=by rw[aM (by omega) (by omega)];omega
   rw[hw]
   have es:ij {p with st:=vs} rr'=[.sl false 1 p.b.length (flat p.b),.int .i64 p.at_,.bool p.last,.arr (HC rr) 0 (vs.length:Int).toNat (FK rr)]:=by
    unfold ij gL
    rw[e1,e2];rfl
   refine⟨fun hx=>hr2 (by simpa using hx) s2 H2.1,fun hx=>⟨⟨by omega,by omega,by omega⟩,?_⟩⟩
   have H3:=H2.set (o':=.cells (ij {p with st:=vs} rr'))
   rw[es]at H3
   exact hr3 (by simpa using hx) _ rr' ids' ⟨f2,f1,by rw[es];exact H3⟩
end Go.AB
end
section
set_option maxRecDepth 4000
namespace Go.AB
open Go
attribute[-go_sem] Nat.add_zero pN dc
theorem P2(b:List UInt8)(a:Int)(last:Bool)(o:AV)(v:aa){r:aa×Int×eY}(h:eL ⟨b,a,last,.dG⟩ v=some r):eL ⟨b,a,last,o⟩ v=some (r.1,r.2.1,⟨b,r.2.2.at_,last,o⟩):=by
 unfold eL at h⊢
 simp only[]at h⊢
 cases h1:bQ b a last with
 |none=>rw[h1]at h;cases h
 |some r1=>
  rw[h1]at h
  simp only[cj]at h⊢
  cases h2:fy (!(r1.2 !=0)) false (gx r1.1)with
  |none=>rw[h2]at h;cases h
  |some r2=>
   rw[h2]at h
   simp only[]at h⊢
   cases h3:((r1.2 !=0)||(!r2))with
   |true=>
    simp only[h3,if_true]at h⊢
    cases h4:dE r1.2 with
    |none=>rw[h4]at h;cases h
    |some r3=>rw[h4]at h;cases h;rfl
   |false=>
    simp only[h3,Bool.false_eq_true,if_false]at h⊢
    cases h4:bQ b r1.1.To last with
    |none=>rw[h4]at h;cases h
    |some r4=>
     rw[h4]at h
     simp only[]at h⊢
     cases h5:(((r4.2 !=0)||(r4.1.Kind !=6))||(!(r4.1.S.b==(aL.mk [82]).b)))with
     |true=>
      first
      |(simp only[h5,if_true]at h;cases h;done)
      |(simp only[h5,if_true]at h⊢
        cases h6:dE r4.2 with
        |none=>rw[h6]at h;cases h
        |some r5=>rw[h6]at h;cases h;rfl)
     |false=>
      simp only[h5,Bool.false_eq_true,if_false]at h⊢
      cases h6:(((decide (v.N<1))||(decide (v.N>4096)))||(r1.1.V.N !=0))with
      |true=>first|(simp only[h6,if_true]at h;cases h;done)|(simp only[h6,if_true]at h⊢;cases h;rfl)
      |false=>first|(simp only[h6,Bool.false_eq_true,if_false]at h;cases h;done)|(simp only[h6,Bool.false_eq_true,if_false]at h⊢;cases h;rfl)
def zV:aa:=⟨0,0,⟨[]⟩,[]⟩
def vA(v:aa):AV:=.agg [.int .i64 v.Kind,.int .i64 v.N,.str v.S.b,.sl false 4 v.L.length (flat v.L)]
def tA(t:aF):AV:=.agg [.int .i64 t.Kind,.int .i64 t.bP,.int .i64 t.To,.int .i64 t.V.Kind,.int .i64 t.V.N,.str t.V.S.b,.sl false 4 t.V.L.length (flat t.V.L),.str t.S.b]
def FR(p:PS)(t:aF):Option (aa×Int×Int):=
 if eJ p.st&&(t.Kind !=1||t.V.Kind !=5)then some (zV,11,p.at_)
 else if t.Kind==6 then cj (pZ t.S) fun r=>some (r.1,r.2,p.at_)
 else cj (gx t) fun w=>if w then cj (eL ⟨p.b,p.at_,p.last,.dG⟩ t.V) fun r=>some (r.1,r.2.1,r.2.2.at_)else some (t.V,0,p.at_)
theorem pF.place{s0 s:ab}{B:Nat}{p:PS}{rr:cN}{ids:List (Nat×cN)}(h:pF s0 s B p rr ids)(a:Int):pF s0 (s.set B (.cells (ij {p with at_:=a} rr))) B {p with at_:=a} rr ids:=⟨h.1,h.2.1,h.2.2.set⟩
theorem Jt{s0 s:ab}{B:Nat}{p:PS}{rr:cN}{ids:List (Nat×cN)}(h:pF s0 s B p rr ids){v:aa}{r:aa×Int×eY}(hr:eL ⟨p.b,p.at_,p.last,.dG⟩ v=some r){Q:List AV→ab→Prop}
 (hq:∀s',pF s0 s' B {p with at_:=r.2.2.at_} rr ids→Q [vA r.1,.int .i64 r.2.1] s'):FN Go.Proofs.Tryz.prog 184 [.ref B 0,vA v] s Q:=by
 refine ve (s_0:=⟨p.b,p.at_,p.last,gL rr p.st.length⟩) h.cell ⟨_,P2 _ _ _ (gL rr p.st.length) _ hr,?_⟩
 exact hq _ (h.place _)
theorem LG{s0 s:ab}{B:Nat}{p:PS}{rr:cN}{ids:List (Nat×cN)}(h:pF s0 s B p rr ids)(hroom:p.st.length≤64){t:aF}{Q:List AV→ab→Prop}
 (hm:ok (FR p t) fun r=>∀s',pF s0 s' B {p with at_:=r.2.2} rr ids→Q [vA r.1,.int .i64 r.2.1] s'):FN Go.Proofs.Tryz.prog 130 [.ref B 0,tA t] s Q:=by
 have hB:=h.cell
 have hlen:=oW h.1
 have hr:room=140737488355328:=rfl
 unfold FR at hm
 simp only[SY,fB,bk]at hm
 obtain⟨m1,m2⟩:=hm
 refine FN.of (ay mix) qY rfl (Nat.le_of_ble_eq_true rfl) ?_
 rw[j9,jS]
 unfold ij at hB
 unfold tA
 simp -implicitDefEqProofs only[go_sem,start,ag,an,aA,aD,aB,aC,Nat.reduceBEq,Nat.reduceAdd,Nat.reduceMul,Nat.reduceLeDiff,Nat.reduceEqDiff,Nat.reduceBNe,Nat.ble_eq,UInt8.reduceToNat,UInt32.reduceToNat]
 refine FY h (by omega) (fun c6=>?_) (fun id ids' v vs hids c6=>?_)
 ·have htw:eJ p.st=false:=by rw[c6];rfl
  rw[htw]at m1 m2
  simp -implicitDefEqProofs only[go_sem,start,ag,an,aA,aD,aB,aC,Nat.reduceBEq,Nat.reduceAdd,Nat.reduceMul,Nat.reduceLeDiff,Nat.reduceEqDiff,Nat.reduceBNe,Nat.ble_eq,UInt8.reduceToNat,UInt32.reduceToNat,hB,Bool.true_eq_false,Bool.false_eq_true,false_implies,true_implies,true_and,and_true]
  refine⟨fun hk=>?_,fun hk=>?_⟩
  ·obtain⟨r,hr1,hr2⟩:=(m2 rfl).1 hk
   refine FE.app (oq hr1) ?_
   simp -implicitDefEqProofs only[go_sem,start,ag,an,aA,aD,aB,aC,Nat.reduceBEq,Nat.reduceAdd,Nat.reduceMul,Nat.reduceLeDiff,Nat.reduceEqDiff,Nat.reduceBNe,Nat.ble_eq,UInt8.reduceToNat,UInt32.reduceToNat]
   exact hr2 s h
  ·obtain⟨w,hw1,hw2⟩:=(m2 rfl).2 hk
   refine FE.app (ib hw1) ?_
   simp -implicitDefEqProofs only[go_sem,start,ag,an,aA,aD,aB,aC,Nat.reduceBEq,Nat.reduceAdd,Nat.reduceMul,Nat.reduceLeDiff,Nat.reduceEqDiff,Nat.reduceBNe,Nat.ble_eq,UInt8.reduceToNat,UInt32.reduceToNat]
   refine⟨fun hw=>?_,fun hw=>?_⟩
   ·obtain⟨r,hr1,hr2⟩:=hw2.1 hw
    refine Jt h hr1 fun s' hs'=>?_
    unfold vA
    simp -implicitDefEqProofs only[go_sem,start,ag,an,aA,aD,aB,aC,Nat.reduceBEq,Nat.reduceAdd,Nat.reduceMul,Nat.reduceLeDiff,Nat.reduceEqDiff,Nat.reduceBNe,Nat.ble_eq,UInt8.reduceToNat,UInt32.reduceToNat]
    exact hr2 s' hs'
   ·exact hw2.2 hw s h
 ·subst hids
  have hlv:=h.lv c6
  simp -implicitDefEqProofs only[go_sem,start,ag,an,aA,aD,aB,aC,Nat.reduceBEq,Nat.reduceAdd,Nat.reduceMul,Nat.reduceLeDiff,Nat.reduceEqDiff,Nat.reduceBNe,Nat.ble_eq,UInt8.reduceToNat,UInt32.reduceToNat,hB]
  refine⟨fun _=>Cx hlv ?_,fun hx=>by cases hx⟩
  have htw:(v.gk&&((v.l_.length:Int).tmod 2==0))=eJ p.st:=by rw[c6];rfl
  rw[htw]
  cases hw:eJ p.st<;>rw[hw]at m1 m2
  all_goals simp -implicitDefEqProofs only[go_sem,start,ag,an,aA,aD,aB,aC,Nat.reduceBEq,Nat.reduceAdd,Nat.reduceMul,Nat.reduceLeDiff,Nat.reduceEqDiff,Nat.reduceBNe,Nat.ble_eq,UInt8.reduceToNat,UInt32.reduceToNat,hB,Bool.true_eq_false,Bool.false_eq_true,false_implies,true_implies,true_and,and_true]
  ·refine⟨fun hk=>?_,fun hk=>?_⟩
   ·obtain⟨r,hr1,hr2⟩:=(m2 rfl).1 hk
    refine FE.app (oq hr1) ?_
    simp -implicitDefEqProofs only[go_sem,start,ag,an,aA,aD,aB,aC,Nat.reduceBEq,Nat.reduceAdd,Nat.reduceMul,Nat.reduceLeDiff,Nat.reduceEqDiff,Nat.reduceBNe,Nat.ble_eq,UInt8.reduceToNat,UInt32.reduceToNat]
    exact hr2 s h
   ·obtain⟨w,hw1,hw2⟩:=(m2 rfl).2 hk
    refine FE.app (ib hw1) ?_
    simp -implicitDefEqProofs only[go_sem,start,ag,an,aA,aD,aB,aC,Nat.reduceBEq,Nat.reduceAdd,Nat.reduceMul,Nat.reduceLeDiff,Nat.reduceEqDiff,Nat.reduceBNe,Nat.ble_eq,UInt8.reduceToNat,UInt32.reduceToNat]
    refine⟨fun hw=>?_,fun hw=>?_⟩
    ·obtain⟨r,hr1,hr2⟩:=hw2.1 hw
     refine Jt h hr1 fun s' hs'=>?_
     unfold vA
     simp -implicitDefEqProofs only[go_sem,start,ag,an,aA,aD,aB,aC,Nat.reduceBEq,Nat.reduceAdd,Nat.reduceMul,Nat.reduceLeDiff,Nat.reduceEqDiff,Nat.reduceBNe,Nat.ble_eq,UInt8.reduceToNat,UInt32.reduceToNat]
     exact hr2 s' hs'
    ·exact hw2.2 hw s h
  ·refine⟨fun hx=>m1 hx s h,fun hx=>?_⟩
   refine⟨fun hk=>?_,fun hk=>?_⟩
   ·obtain⟨r,hr1,hr2⟩:=(m2 hx).1 hk
    refine FE.app (oq hr1) ?_
    simp -implicitDefEqProofs only[go_sem,start,ag,an,aA,aD,aB,aC,Nat.reduceBEq,Nat.reduceAdd,Nat.reduceMul,Nat.reduceLeDiff,Nat.reduceEqDiff,Nat.reduceBNe,Nat.ble_eq,UInt8.reduceToNat,UInt32.reduceToNat]
    exact hr2 s h
   ·obtain⟨w,hw1,hw2⟩:=(m2 hx).2 hk
    refine FE.app (ib hw1) ?_
    simp -implicitDefEqProofs only[go_sem,start,ag,an,aA,aD,aB,aC,Nat.reduceBEq,Nat.reduceAdd,Nat.reduceMul,Nat.reduceLeDiff,Nat.reduceEqDiff,Nat.reduceBNe,Nat.ble_eq,UInt8.reduceToNat,UInt32.reduceToNat]
    refine⟨fun hw=>?_,fun hw=>?_⟩
    ·obtain⟨r,hr1,hr2⟩:=hw2.1 hw
     refine Jt h hr1 fun s' hs'=>?_
     unfold vA
     simp -implicitDefEqProofs only[go_sem,start,ag,an,aA,aD,aB,aC,Nat.reduceBEq,Nat.reduceAdd,Nat.reduceMul,Nat.reduceLeDiff,Nat.reduceEqDiff,Nat.reduceBNe,Nat.ble_eq,UInt8.reduceToNat,UInt32.reduceToNat]
     exact hr2 s' hs'
    ·exact hw2.2 hw s h
def R6(pf:List aa→Option (List aa×Int))(p:PS)(dict:Bool):Option (aa×Int×PS):=
 bif rB p.st dict then some (zV,11,p)else
 match p.st with
 |[]=>none
 |v::vs=>bif dict then cj (pf v.l_) fun r=>bif r.2 !=0 then some (zV,r.2,p)else some (⟨7,0,⟨[]⟩,r.1⟩,0,{p with st:=vs})
  else some (⟨6,0,⟨[]⟩,v.l_⟩,0,{p with st:=vs})
def xr(p:PS)(dict:Bool):Int×PS:=bif eJ p.st then(11,p)else bif decide (64≤p.st.length)then(15,p)else(0,{p with st:=⟨dict,[]⟩::p.st})
def Qq(s0:ab)(B:Nat)(e:Int)(p:PS)(K:ab→Prop):Prop:=(e≠0→∀s',Sub s0 s'→K s')∧(e=0→∀s' rr' ids',pF s0 s' B p rr' ids'→K s')
theorem Qq.at{s0 s:ab}{B:Nat}{e:Int}{p:PS}{K:ab→Prop}{rr:cN}{ids:List (Nat×cN)}(q:Qq s0 B e p K)(h:pF s0 s B p rr ids):K s:=by
 by_cases he:e=0
 ·exact q.2 he _ _ _ h
 ·exact q.1 he _ h.2.2.1
theorem Qq.mono{s0:ab}{B:Nat}{e:Int}{p:PS}{K K':ab→Prop}(q:Qq s0 B e p K)(h:∀s',K s'→K' s'):Qq s0 B e p K':=⟨fun he s' hs=>h _ (q.1 he s' hs),fun he s' rr' ids' hs=>h _ (q.2 he s' rr' ids' hs)⟩
theorem QN{pf:List aa→Option (List aa×Int)}(hpf:vC pf){s0 s:ab}{B:Nat}{p:PS}{rr:cN}{ids:List (Nat×cN)}(h:pF s0 s B p rr ids)(hroom:p.st.length≤64){dict:Bool}{Q:List AV→ab→Prop}
 (hm:ok (R6 pf p dict) fun r=>Qq s0 B r.2.1 r.2.2 (Q [vA r.1,.int .i64 r.2.1])):FN Go.Proofs.Tryz.prog 129 [.ref B 0,.bool dict] s Q:=by
 unfold R6 at hm
 refine R7 hpf h hroom (fun hb=>?_) (fun v vs c6 hd hb s' rr' ids' hs'=>?_) (fun v vs c6 hd hb=>?_)
 ·rw[hb,cond_true,bk]at hm
  exact hm.at h
 ·rw[hb,cond_false,c6]at hm
  subst hd
  simp only[cond_false,bk]at hm
  exact hm.at hs'
 ·rw[hb,cond_false,c6]at hm
  subst hd
  simp only[cond_true,fB]at hm
  obtain⟨r,hr,hm⟩:=hm
  refine⟨r,hr,fun he s' hs'=>?_,fun he s' rr' ids' hs'=>?_⟩
  ·rw[show(r.2 !=0)=true by simpa using he,cond_true,bk]at hm
   exact hm.1 he s' hs'
  ·rw[show(r.2 !=0)=false by simpa using he,cond_false,bk]at hm
   exact hm.2 rfl s' rr' ids' hs'
theorem JM{s0 s:ab}{B:Nat}{p:PS}{rr:cN}{ids:List (Nat×cN)}(h:pF s0 s B p rr ids)(hroom:p.st.length≤64){dict:Bool}{Q:List AV→ab→Prop}
 (hm:Qq s0 B (xr p dict).1 (xr p dict).2 (Q [.int .i64 (xr p dict).1])):FN Go.Proofs.Tryz.prog 128 [.ref B 0,.bool dict] s Q:=by
 unfold xr at hm
 refine Mc h hroom (fun hw=>?_) (fun hw hl=>?_) (fun hw hl s' rr' ids' hs'=>?_)
 ·rw[hw,cond_true]at hm
  exact hm.at h
 ·rw[hw,cond_false,decide_eq_true hl,cond_true]at hm
  exact hm.at h
 ·rw[hw,cond_false,decide_eq_false (by omega),cond_false]at hm
  exact hm.at hs'
def N2(pf:List aa→Option (List aa×Int))(p:PS)(t:aF):Option (aa×Bool×Int×PS):=
 bif t.Kind==0 then some (zV,false,10,p)
 else bif t.Kind==2||t.Kind==4 then some (zV,false,(xr p (t.Kind==4)).1,(xr p (t.Kind==4)).2)
 else bif t.Kind==3||t.Kind==5 then cj (R6 pf p (t.Kind==5)) fun r=>some (r.1,r.2.1==0,r.2.1,r.2.2)
 else cj (FR p t) fun r=>bif r.2.1==0&&decide (64≤p.st.length)then some (r.1,false,15,{p with at_:=r.2.2})else some (r.1,r.2.1==0,r.2.1,{p with at_:=r.2.2})
theorem P9{pf:List aa→Option (List aa×Int)}(hpf:vC pf){s0 s:ab}{B:Nat}{p:PS}{rr:cN}{ids:List (Nat×cN)}(h:pF s0 s B p rr ids)(hroom:p.st.length≤64){t:aF}{Q:List AV→ab→Prop}
 (hm:ok (N2 pf p t) fun r=>Qq s0 B r.2.2.1 r.2.2.2 (Q [vA r.1,.bool r.2.1,.int .i64 r.2.2.1])):FN Go.Proofs.Tryz.prog 75 [.ref B 0,tA t] s Q:=by
 have hr:room=140737488355328:=rfl
 unfold N2 at hm
 refine FN.of (ay mix) tI rfl (Nat.le_of_ble_eq_true rfl) ?_
 rw[lJ,lr]
 unfold tA
 cases h0:(t.Kind==0)with
 |true=>
  rw[h0,cond_true,bk]at hm
  simp -implicitDefEqProofs only[go_sem,start,ag,an,aA,aD,aB,aC,Nat.reduceBEq,Nat.reduceAdd,Nat.reduceMul,Nat.reduceLeDiff,Nat.reduceEqDiff,Nat.reduceBNe,Nat.ble_eq,UInt8.reduceToNat,UInt32.reduceToNat,h0,Bool.true_eq_false,Bool.false_eq_true,false_implies,true_implies,true_and,and_true]
  exact hm.at h
 |false=>
 rw[h0,cond_false]at hm
 cases h2:(t.Kind==2)with
 |true=>
  have h4:(t.Kind==4)=false:=by have:=eq_of_beq h2;rw[this];rfl
  rw[h2,h4,Bool.true_or,cond_true,bk]at hm
  simp -implicitDefEqProofs only[go_sem,start,ag,an,aA,aD,aB,aC,Nat.reduceBEq,Nat.reduceAdd,Nat.reduceMul,Nat.reduceLeDiff,Nat.reduceEqDiff,Nat.reduceBNe,Nat.ble_eq,UInt8.reduceToNat,UInt32.reduceToNat,h0,h2,h4,Bool.true_eq_false,Bool.false_eq_true,false_implies,true_implies,true_and,and_true,Bool.true_or,Bool.or_true,Bool.or_false]
  refine JM h hroom (hm.mono fun s' hq=>?_)
  simp -implicitDefEqProofs only[go_sem,start,ag,an,aA,aD,aB,aC,Nat.reduceBEq,Nat.reduceAdd,Nat.reduceMul,Nat.reduceLeDiff,Nat.reduceEqDiff,Nat.reduceBNe,Nat.ble_eq,UInt8.reduceToNat,UInt32.reduceToNat]
  repeat'(first|((with_reducible refine L9 ?_ ?_);exact rfl)|((with_reducible refine M7 ?_ ?_);exact rfl)|simp -implicitDefEqProofs only[go_sem,start,ag,an,aA,aD,aB,aC,Nat.reduceBEq,Nat.reduceAdd,Nat.reduceMul,Nat.reduceLeDiff,Nat.reduceEqDiff,Nat.reduceBNe,Nat.ble_eq,UInt8.reduceToNat,UInt32.reduceToNat])
  exact hq
 |false=>
 cases h4:(t.Kind==4)with
 |true=>
  rw[h2,h4,Bool.or_true,cond_true,bk]at hm
  simp -implicitDefEqProofs only[go_sem,start,ag,an,aA,aD,aB,aC,Nat.reduceBEq,Nat.reduceAdd,Nat.reduceMul,Nat.reduceLeDiff,Nat.reduceEqDiff,Nat.reduceBNe,Nat.ble_eq,UInt8.reduceToNat,UInt32.reduceToNat,h0,h2,h4,Bool.true_eq_false,Bool.false_eq_true,false_implies,true_implies,true_and,and_true,Bool.true_or,Bool.or_true,Bool.or_false]
  refine JM h hroom (hm.mono fun s' hq=>?_)
  simp -implicitDefEqProofs only[go_sem,start,ag,an,aA,aD,aB,aC,Nat.reduceBEq,Nat.reduceAdd,Nat.reduceMul,Nat.reduceLeDiff,Nat.reduceEqDiff,Nat.reduceBNe,Nat.ble_eq,UInt8.reduceToNat,UInt32.reduceToNat]
  repeat'(first|((with_reducible refine L9 ?_ ?_);exact rfl)|((with_reducible refine M7 ?_ ?_);exact rfl)|simp -implicitDefEqProofs only[go_sem,start,ag,an,aA,aD,aB,aC,Nat.reduceBEq,Nat.reduceAdd,Nat.reduceMul,Nat.reduceLeDiff,Nat.reduceEqDiff,Nat.reduceBNe,Nat.ble_eq,UInt8.reduceToNat,UInt32.reduceToNat])
  exact hq
 |false=>
 rw[h2,h4,Bool.or_false,cond_false]at hm
 cases h3:(t.Kind==3)with
 |true=>
  have h5:(t.Kind==5)=false:=by have:=eq_of_beq h3;rw[this];rfl
  rw[h3,h5,Bool.true_or,cond_true,fB]at hm
  obtain⟨r,hr1,hm⟩:=hm
  rw[bk]at hm
  simp -implicitDefEqProofs only[go_sem,start,ag,an,aA,aD,aB,aC,Nat.reduceBEq,Nat.reduceAdd,Nat.reduceMul,Nat.reduceLeDiff,Nat.reduceEqDiff,Nat.reduceBNe,Nat.ble_eq,UInt8.reduceToNat,UInt32.reduceToNat,h0,h2,h4,h3,h5,Bool.true_eq_false,Bool.false_eq_true,false_implies,true_implies,true_and,and_true,Bool.true_or,Bool.or_true,Bool.or_false]
  refine QN hpf h hroom ⟨r,hr1,hm.mono fun s' hq=>?_⟩
  unfold vA
  simp -implicitDefEqProofs only[go_sem,start,ag,an,aA,aD,aB,aC,Nat.reduceBEq,Nat.reduceAdd,Nat.reduceMul,Nat.reduceLeDiff,Nat.reduceEqDiff,Nat.reduceBNe,Nat.ble_eq,UInt8.reduceToNat,UInt32.reduceToNat]
  exact hq
 |false=>
 cases h5:(t.Kind==5)with
 |true=>
  rw[h3,h5,Bool.or_true,cond_true,fB]at hm
  obtain⟨r,hr1,hm⟩:=hm
  rw[bk]at hm
  simp -implicitDefEqProofs only[go_sem,start,ag,an,aA,aD,aB,aC,Nat.reduceBEq,Nat.reduceAdd,Nat.reduceMul,Nat.reduceLeDiff,Nat.reduceEqDiff,Nat.reduceBNe,Nat.ble_eq,UInt8.reduceToNat,UInt32.reduceToNat,h0,h2,h4,h3,h5,Bool.true_eq_false,Bool.false_eq_true,false_implies,true_implies,true_and,and_true,Bool.true_or,Bool.or_true,Bool.or_false]
  refine QN hpf h hroom ⟨r,hr1,hm.mono fun s' hq=>?_⟩
  unfold vA
  simp -implicitDefEqProofs only[go_sem,start,ag,an,aA,aD,aB,aC,Nat.reduceBEq,Nat.reduceAdd,Nat.reduceMul,Nat.reduceLeDiff,Nat.reduceEqDiff,Nat.reduceBNe,Nat.ble_eq,UInt8.reduceToNat,UInt32.reduceToNat]
  exact hq
 |false=>
 rw[h3,h5,Bool.or_false,cond_false,fB]at hm
 obtain⟨r,hr1,hm⟩:=hm
 simp -implicitDefEqProofs only[go_sem,start,ag,an,aA,aD,aB,aC,Nat.reduceBEq,Nat.reduceAdd,Nat.reduceMul,Nat.reduceLeDiff,Nat.reduceEqDiff,Nat.reduceBNe,Nat.ble_eq,UInt8.reduceToNat,UInt32.reduceToNat,h0,h2,h4,h3,h5,Bool.true_eq_false,Bool.false_eq_true,false_implies,true_implies,true_and,and_true,Bool.true_or,Bool.or_true,Bool.or_false]
 refine LG h hroom ⟨r,hr1,fun s' hs'=>?_⟩
 have hB:=hs'.cell
 unfold ij at hB
 unfold vA
 simp -implicitDefEqProofs only[go_sem,start,ag,an,aA,aD,aB,aC,Nat.reduceBEq,Nat.reduceAdd,Nat.reduceMul,Nat.reduceLeDiff,Nat.reduceEqDiff,Nat.reduceBNe,Nat.ble_eq,UInt8.reduceToNat,UInt32.reduceToNat,hB]
 cases he:(r.2.1==0)with
 |false=>
  rw[he,Bool.false_and,cond_false,bk]at hm
  simp -implicitDefEqProofs only[go_sem,start,ag,an,aA,aD,aB,aC,Nat.reduceBEq,Nat.reduceAdd,Nat.reduceMul,Nat.reduceLeDiff,Nat.reduceEqDiff,Nat.reduceBNe,Nat.ble_eq,UInt8.reduceToNat,UInt32.reduceToNat,hB,he,Bool.true_eq_false,Bool.false_eq_true,false_implies,true_implies,true_and,and_true,Bool.true_or,Bool.or_true,Bool.or_false]
  exact hm.at hs'
 |true=>
  rw[he,Bool.true_and]at hm
  simp -implicitDefEqProofs only[go_sem,start,ag,an,aA,aD,aB,aC,Nat.reduceBEq,Nat.reduceAdd,Nat.reduceMul,Nat.reduceLeDiff,Nat.reduceEqDiff,Nat.reduceBNe,Nat.ble_eq,UInt8.reduceToNat,UInt32.reduceToNat,hB,he,Bool.true_eq_false,Bool.false_eq_true,false_implies,true_implies,true_and,and_true,Bool.true_or,Bool.or_true,Bool.or_false]
  refine⟨fun hl=>?_,fun hl=>?_⟩
  ·rw[show decide (64≤p.st.length)=true by have:=of_decide_eq_true hl;exact decide_eq_true (by omega),cond_true,bk]at hm
   exact hm.at hs'
  ·rw[show decide (64≤p.st.length)=false by have:=of_decide_eq_false hl;exact decide_eq_false (by omega),cond_false,bk]at hm
   exact hm.at hs'
end Go.AB
end
