/- A part of the proof: Pq, Hp, Pr, Pt. -/
import Derived.Test.YtkeagffgdajggaaGreatT14
import Derived.Test.YtkeagffgdajggaaGreatT12
set_option linter.unusedSimpArgs false
set_option linter.unusedVariables false
section
set_option maxRecDepth 4000
namespace Go.AB
open Go
attribute[-go_sem] bU cN bw bT
@[go_sem]theorem agk(g:Bool):(g=true→(2:Int)≠0)=True:=eq_true (fun _=>by decide)
def ie(t_0:a8):Option (Bool):=some ((t_0.Kind==1)&&(t_0.V.Kind==2))
def tU:IC:=
 (ae [i1 1 (.cW 8 (.t 0)),cV 2 (.bool false)] [1]
 (ae [fa 3 0 1,ld 4 1 3,bn 5 .eql 4 1,mv 6 5,fg 7 6 true 3 1,fg 8 6 true 0 7,lg 9 6 true 1 8,jx 10 6 true .eql 9 2,pf 11 6 10,mv 2 11] [2]
 .ret))
def sF:List ay:=[⟨2,true,none⟩]
theorem Fu:aC Go.Proofs.Tryz.prog 124 12 sF tU=true:=by kernel_rfl
theorem F8{t_0}{s:ab}{Q:List AV→ab→Prop}:ok (ie t_0) (fun r=>Q [.bool r] s)→FN Go.Proofs.Tryz.prog 124 [.agg [.int .i64 t_0.Kind,.int .i64 t_0.bI,.int .i64 t_0.To,.int .i64 t_0.V.Kind,.int .i64 t_0.V.N,.str t_0.V.S.b,.sl false 4 t_0.V.L.length (flat t_0.V.L),.str t_0.S.b]] s Q:=by
 intro h
 refine FN.of (af mix) Fu rfl (Nat.le_of_ble_eq_true rfl) ?_
 revert h
 rw[tU,sF,ie]
 repeat'(first
  |simp -implicitDefEqProofs only[go_sem,seval])
theorem kp{t_0}{s:ab}{r:Bool}(h:ie t_0=some r):FE Go.Proofs.Tryz.prog 124 [.agg [.int .i64 t_0.Kind,.int .i64 t_0.bI,.int .i64 t_0.To,.int .i64 t_0.V.Kind,.int .i64 t_0.V.N,.str t_0.V.S.b,.sl false 4 t_0.V.L.length (flat t_0.V.L),.str t_0.S.b]] s [.bool r] s:=F8 ⟨r,h,rfl,rfl⟩
def gr(e_0:Int):Option (Int):=
 if e_0==6 then
  some e_0
 else
  some 0
def xi:IC:=
 (ae [mi 2 0] [0]
 (.seq (ae [mv 3 0,bn 4 .eql 3 6] [0,4]
 (.cond (.t 4) (ae [mv 5 0,mv 2 5] [2]
 .ret)
 .skip))
 (ae [mi 2 0] [2]
 .ret)))
def u5:List ay:=[⟨2,true,none⟩]
theorem HI:aC Go.Proofs.Tryz.prog 227 6 u5 xi=true:=by kernel_rfl
theorem Ik{e_0}{s:ab}{Q:List AV→ab→Prop}:ok (gr e_0) (fun r=>Q [.int .i64 r] s)→FN Go.Proofs.Tryz.prog 227 [.int .i64 e_0] s Q:=by
 intro h
 refine FN.of (af mix) HI rfl (Nat.le_of_ble_eq_true rfl) ?_
 revert h
 rw[xi,u5,gr]
 repeat'(first
  |simp -implicitDefEqProofs only[go_sem,seval])
theorem xL{e_0}{s:ab}{r:Int}(h:gr e_0=some r):FE Go.Proofs.Tryz.prog 227 [.int .i64 e_0] s [.int .i64 r] s:=Ik ⟨r,h,rfl,rfl⟩
def rC(w_0:aA):Option (aa×Int):=
 if w_0.b==(aA.mk [116,114,117,101]).b then
  some ((aa.mk 1 1 (aA.mk []) ([]:List aa)),0)
 else
  if w_0.b==(aA.mk [102,97,108,115,101]).b then
   some ((aa.mk 1 0 (aA.mk []) ([]:List aa)),0)
  else
   if w_0.b==(aA.mk [110,117,108,108]).b then
    some ((aa.mk 0 0 (aA.mk []) ([]:List aa)),0)
   else
    some ((aa.mk 0 0 (aA.mk []) ([]:List aa)),11)
def xl:IC:=
 (ae [i1 2 (.aq gB),mi 3 0] [0,2]
 (.seq (ae [mv 4 0] [2,4]
 (.block 0 (ae [i1 6 (.bin .eql (.t 4) (.c (.str [116,114,117,101]))),mv 5 6] [2,4,5]
 (.cond (.t 5) (ae [i1 7 (.build gB [(0,1,(.c (.int .i64 1))),(1,1,(.c (.int .i64 1)))]),st 4 2 7,mi 3 0] [2,3]
 .ret)
 (ae [i1 9 (.bin .eql (.t 4) (.c (.str [102,97,108,115,101]))),mv 8 9] [2,4,8]
 (.cond (.t 8) (ae [i1 10 (.build gB [(0,1,(.c (.int .i64 1)))]),st 4 2 10,mi 3 0] [2,3]
 .ret)
 (ae [i1 12 (.bin .eql (.t 4) (.c (.str [110,117,108,108]))),mv 11 12] [2,11]
 (.cond (.t 11) (ae [i1 13 (.build gB []),st 4 2 13,mi 3 0] [2,3]
 .ret)
 .skip))))))))
 (ae [i1 14 (.build gB []),st 4 2 14,mi 3 11] [2,3]
 .ret)))
def u7:List ay:=[⟨2,false,some (4,true)⟩,⟨3,true,none⟩]
theorem HK:aC Go.Proofs.Tryz.prog 183 15 u7 xl=true:=by kernel_rfl
theorem Io{w_0}{s:ab}{Q:List AV→ab→Prop}:ok (rC w_0) (fun r=>Q [.agg [.int .i64 r.1.Kind,.int .i64 r.1.N,.str r.1.S.b,.sl false 4 r.1.L.length (flat r.1.L)],.int .i64 r.2] s)→FN Go.Proofs.Tryz.prog 183 [.str w_0.b] s Q:=by
 intro h
 refine FN.of (af mix) HK rfl (Nat.le_of_ble_eq_true rfl) ?_
 revert h
 rw[xl,u7,rC]
 repeat'(first
  |simp -implicitDefEqProofs only[go_sem,seval])
theorem pw{w_0}{s:ab}{r:aa×Int}(h:rC w_0=some r):FE Go.Proofs.Tryz.prog 183 [.str w_0.b] s [.agg [.int .i64 r.1.Kind,.int .i64 r.1.N,.str r.1.S.b,.sl false 4 r.1.L.length (flat r.1.L)],.int .i64 r.2] s:=Io ⟨r,h,rfl,rfl⟩
structure eJ where
 b_:(List UInt8)
 at_:Int
 aZ:Bool
 open_:AV
def lu(s_0:eJ):Option (a8×Int×eJ):=
 aP (dB s_0.b_ s_0.at_ s_0.aZ) fun r1=>
 jn (
  if r1.2==0 then
   some (eJ.mk s_0.b_ r1.1.To s_0.aZ s_0.open_)
  else
   some s_0) fun(o5:eJ)=>
 some (r1.1,r1.2,o5)
def my:IC:=
 (ae [i1 2 (.aq A3),mi 3 0] [0,2]
 (.seq (.wY [4] 19 [mv 7 0,nc 8 7,fa 9 0 8,i1 10 (.aU [.sl false 1 0 []] false (.t 9)),mv 11 0,nc 12 11,fa 13 1 12,i1 14 (.aU lZ false (.t 13)),mv 15 0,nc 16 15,fa 17 2 16,i1 18 (.aU [.bool false] false (.t 17)),c3 19 127 10 14 18,iw 6 19,ex 20 6 0,ex 21 6 1,i1 4 (.aq A3),st 8 4 20,mv 5 21] [0,2,4,5])
 (.join [(2,false),(4,false),(5,false)] (ae [mv 22 5,bn 23 .eql 22 0] [0,2,4,5,23]
 (.cond (.t 23) (.bD none [mv 24 0,fa 25 2 4,ld 26 1 25,nc 27 24,fa 28 1 27,st 1 28 26] [2,4,5])
 .skip))
 (ae [lm 29 8 4,mv 30 5,st 8 2 29,mv 3 30] [2,3]
 .ret))))
def ma:List ay:=[⟨2,false,some (8,true)⟩,⟨3,true,none⟩]
theorem wO:aC Go.Proofs.Tryz.prog 74 31 ma my=true:=by kernel_rfl
theorem wX{s_0}{B0:Nat}{s:ab}{Q:List AV→ab→Prop}(hB0:s B0=some (.cells [.sl false 1 s_0.b_.length (flat s_0.b_),.int .i64 s_0.at_,.bool s_0.aZ,s_0.open_])):ok (lu s_0) (fun r=>Q [.agg [.int .i64 r.1.Kind,.int .i64 r.1.bI,.int .i64 r.1.To,.int .i64 r.1.V.Kind,.int .i64 r.1.V.N,.str r.1.V.S.b,.sl false 4 r.1.V.L.length (flat r.1.V.L),.str r.1.S.b],.int .i64 r.2.1] (s.set B0 (.cells [.sl false 1 r.2.2.b_.length (flat r.2.2.b_),.int .i64 r.2.2.at_,.bool r.2.2.aZ,r.2.2.open_])))→FN Go.Proofs.Tryz.prog 74 [.ref B0 0] s Q:=by
 have hS:s=(s.set B0 (.cells [.sl false 1 s_0.b_.length (flat s_0.b_),.int .i64 s_0.at_,.bool s_0.aZ,s_0.open_])):=by simp only[du hB0]
 rw[hS]
 intro h
 refine FN.of (af mix) wO rfl (Nat.le_of_ble_eq_true rfl) ?_
 revert h
 rw[my,ma,lu]
 repeat'(first
  |((with_reducible refine OL ?_ ?_);exact rfl)
  |with_reducible refine bH (fun _(h:dB s_0.b_ s_0.at_ s_0.aZ=some _)=>jH h) (fun _=>rfl) (fun r1=>?_)
  |((with_reducible refine cH (fun(o5:eJ)=>⟨[(2,.loc [.int .i64 0,.int .i64 0,.int .i64 0,.int .i64 0,.int .i64 0,.str (aA.mk []).b,.sl true 4 0 [],.str (aA.mk []).b]),(4,.loc [.int .i64 r1.1.Kind,.int .i64 r1.1.bI,.int .i64 r1.1.To,.int .i64 r1.1.V.Kind,.int .i64 r1.1.V.N,.str r1.1.V.S.b,.sl false 4 r1.1.V.L.length (flat r1.1.V.L),.str r1.1.S.b]),(5,.int .i64 r1.2)],[],(s.set B0 (.cells [.sl false 1 o5.b_.length (flat o5.b_),.int .i64 o5.at_,.bool o5.aZ,o5.open_]))⟩) (fun J=>?_) ?_);rotate_left;rintro o5)
  |simp -implicitDefEqProofs only[go_sem,seval])
def ep(s_0:eJ)(v_1:aa):Option (aa×Int×eJ):=
 aP (dB s_0.b_ s_0.at_ s_0.aZ) fun r1=>
 aP (fY (!(r1.2 !=0)) false (ie r1.1)) fun r2=>
 if(r1.2 !=0)||(!r2)then
  aP (gr r1.2) fun r3=>
  some (v_1,r3,s_0)
 else
  aP (dB s_0.b_ r1.1.To s_0.aZ) fun r4=>
  if((r4.2 !=0)||(r4.1.Kind !=6))||(!(r4.1.S.b==(aA.mk [82]).b))then
   aP (gr r4.2) fun r5=>
   some (v_1,r5,s_0)
  else
   if((decide (v_1.N<1))||(decide (v_1.N>4096)))||(r1.1.V.N !=0)then
    some (v_1,26,s_0)
   else
    some ((aa.mk 8 v_1.N (aA.mk []) ([]:List aa)),0,(eJ.mk s_0.b_ r4.1.To s_0.aZ s_0.open_))
def nF:IC:=
 (ae [i1 3 (.cW 4 (.t 1)),i1 4 (.aq gB),mi 5 0] [0,3,4]
 (.seq (.wY [6] 19 [mv 10 0,nc 11 10,fa 12 0 11,i1 13 (.aU [.sl false 1 0 []] false (.t 12)),mv 14 0,nc 15 14,fa 16 1 15,i1 17 (.aU lZ false (.t 16)),mv 18 0,nc 19 18,fa 20 2 19,i1 21 (.aU [.bool false] false (.t 20)),c3 22 127 13 17 21,iw 9 22,ex 23 9 0,ex 24 9 1,i1 6 (.aq A3),st 8 6 23,mv 7 24] [0,3,4,6,7])
 (.seq (.seq (.bD (some 5) [mv 25 7,bn 26 .neq 25 0,mv 27 26,cS 28 27 false (.load 8 true (.t 6)),Qa 29 27 false 124 28,cS 30 27 false (.un .not (.t 29)),po 31 27 30] [0,3,4,6,7,31])
 (.cond (.t 31) (.seq (.bD (some 3) [lm 32 4 3,mv 33 7,c1 34 227 33,st 4 4 32,mv 5 34] [4,5])
 .ret)
 .skip))
 (.seq (.wY [8] 17 [mv 36 0,nc 37 36,fa 38 0 37,i1 39 (.aU [.sl false 1 0 []] false (.t 38)),fa 40 2 6,ld 41 1 40,mv 42 0,nc 43 42,fa 44 2 43,i1 45 (.aU [.bool false] false (.t 44)),c3 46 127 39 41 45,iw 35 46,ex 47 35 0,ex 48 35 1,i1 8 (.aq A3),st 8 8 47,mv 7 48] [0,3,4,6,7,8])
 (.seq (ae [mv 49 7,bn 50 .neq 49 0,mv 51 50,fg 52 51 false 0 8,lg 53 51 false 1 52,jx 54 51 false .neq 53 6,po 55 51 54,mv 56 55,fg 57 56 false 7 8,lg 58 56 false 1 57,cS 59 56 false (.bin .neq (.t 58) (.c (.str [82]))),po 60 56 59] [0,3,4,6,7,8,60]
 (.cond (.t 60) (.seq (.bD (some 3) [lm 61 4 3,mv 62 7,c1 63 227 62,st 4 4 61,mv 5 63] [4,5])
 .ret)
 .skip))
 (.seq (ae [fa 64 1 3,ld 65 1 64,bn 66 .lss 65 1,mv 67 66,fg 68 67 false 1 3,lg 69 67 false 1 68,jx 70 67 false .gtr 69 4096,po 71 67 70,mv 72 71,fg 73 72 false 3 6,fg 74 72 false 1 73,lg 75 72 false 1 74,jx 76 72 false .neq 75 0,po 77 72 76] [0,3,4,8,77]
 (.cond (.t 77) (ae [lm 78 4 3,st 4 4 78,mi 5 26] [4,5]
 .ret)
 .skip))
 (ae [mv 79 0,fa 80 2 8,ld 81 1 80,nc 82 79,fa 83 1 82,st 1 83 81] [3,4]
 (ae [fa 84 1 3,ld 85 1 84,i1 86 (.build gB [(0,1,(.c (.int .i64 8))),(1,1,(.t 85))]),st 4 4 86,mi 5 0] [4,5]
 .ret))))))))
def mI:List ay:=[⟨4,false,some (4,true)⟩,⟨5,true,none⟩]
theorem yQ:aC Go.Proofs.Tryz.prog 184 87 mI nF=true:=by kernel_rfl
theorem y5{s_0 v_1}{B0:Nat}{s:ab}{Q:List AV→ab→Prop}(hB0:s B0=some (.cells [.sl false 1 s_0.b_.length (flat s_0.b_),.int .i64 s_0.at_,.bool s_0.aZ,s_0.open_])):ok (ep s_0 v_1) (fun r=>Q [.agg [.int .i64 r.1.Kind,.int .i64 r.1.N,.str r.1.S.b,.sl false 4 r.1.L.length (flat r.1.L)],.int .i64 r.2.1] (s.set B0 (.cells [.sl false 1 r.2.2.b_.length (flat r.2.2.b_),.int .i64 r.2.2.at_,.bool r.2.2.aZ,r.2.2.open_])))→FN Go.Proofs.Tryz.prog 184 [.ref B0 0,.agg [.int .i64 v_1.Kind,.int .i64 v_1.N,.str v_1.S.b,.sl false 4 v_1.L.length (flat v_1.L)]] s Q:=by
 have hS:s=(s.set B0 (.cells [.sl false 1 s_0.b_.length (flat s_0.b_),.int .i64 s_0.at_,.bool s_0.aZ,s_0.open_])):=by simp only[du hB0]
 rw[hS]
 intro h
 refine FN.of (af mix) yQ rfl (Nat.le_of_ble_eq_true rfl) ?_
 revert h
 rw[nF,mI,ep]
 repeat'(first
  |with_reducible exact cF
  |((with_reducible refine OL ?_ ?_);exact rfl)
  |with_reducible refine bj ?_ ?_
  |with_reducible refine cJ ?_
  |with_reducible refine bH (fun _(h:dB s_0.b_ s_0.at_ s_0.aZ=some _)=>jH h) (fun _=>rfl) (fun r1=>?_)
  |with_reducible refine dg rfl (fun _(h:ie r1.1=some _)=>kp h) (fun _=>rfl) (fun r2=>?_)
  |with_reducible refine bH (fun _(h:gr r1.2=some _)=>xL h) (fun _=>rfl) (fun r3=>?_)
  |with_reducible refine bH (fun _(h:dB s_0.b_ r1.1.To s_0.aZ=some _)=>jH h) (fun _=>rfl) (fun r4=>?_)
  |with_reducible refine bH (fun _(h:gr r4.2=some _)=>xL h) (fun _=>rfl) (fun r5=>?_)
  |simp -implicitDefEqProofs only[go_sem,seval])
structure cE where
 fL:Bool
 l_:(List aa)
end Go.AB
end
section
namespace Go.AB
open Go
def Holds(s0 s:ab)(H:List (Nat×SO)):Prop:=Sub s0 s∧(∀p∈H,s p.1=some p.2∧s0 p.1=none)∧(H.map Prod.fst).Nodup
theorem Holds.perm{s0 s:ab}{H H':List (Nat×SO)}(h:Holds s0 s H)(p:H.Perm H'):Holds s0 s H':=⟨h.1,fun x hx=>h.2.1 x (p.mem_iff.2 hx),(p.map Prod.fst).nodup_iff.1 h.2.2⟩
theorem Holds.nil{s:ab}:Holds s s []:=⟨Sub.refl s,fun p hp=>by simp at hp,by simp⟩
theorem Holds.get{s0 s:ab}{k:Nat}{o:SO}{H:List (Nat×SO)}(h:Holds s0 s ((k,o)::H)):s k=some o:=(h.2.1 _ List.mem_cons_self).1
theorem Holds.mem{s0 s:ab}{k:Nat}{o:SO}{H:List (Nat×SO)}(h:Holds s0 s H)(hm:(k,o)∈H):s k=some o:=(h.2.1 _ hm).1
theorem Holds.tail{s0 s:ab}{p:Nat×SO}{H:List (Nat×SO)}(h:Holds s0 s (p::H)):Holds s0 s H:=⟨h.1,fun x hx=>h.2.1 x (List.mem_cons_of_mem _ hx),(List.nodup_cons.1 h.2.2).2⟩
theorem Holds.set{s0 s:ab}{k:Nat}{o o':SO}{H:List (Nat×SO)}(h:Holds s0 s ((k,o)::H)):Holds s0 (s.set k o') ((k,o')::H):=by
 obtain⟨h1,h2,h3⟩:=h
 have h0:=(h2 _ List.mem_cons_self).2
 refine⟨fun b x hb=>?_,fun p hp=>?_,h3⟩
 ·rw[ai (fun e=>by subst e;rw[h0]at hb;cases hb)];exact h1 b x hb
 ·rcases List.mem_cons.1 hp with rfl|hp
  ·exact⟨bd ..,h0⟩
  ·obtain⟨q1,q2⟩:=h2 p (List.mem_cons_of_mem _ hp)
   refine⟨?_,q2⟩
   rw[ai (fun e=>?_)];exact q1
   have:=(List.nodup_cons.1 h3).1
   exact this (by show k∈H.map Prod.fst;rw[←e];exact List.mem_map_of_mem hp)
theorem Holds.ada{s0 s:ab}{H:List (Nat×SO)}(h:Holds s0 s H){k:Nat}(hk:s k=none):k∉H.map Prod.fst:=by
 intro hm
 obtain⟨p,hp,rfl⟩:=List.mem_map.1 hm
 rw[(h.2.1 p hp).1]at hk;cases hk
theorem Holds.alloc{s0 s:ab}{k:Nat}{o:SO}{H:List (Nat×SO)}(h:Holds s0 s H)(hk:s k=none):Holds s0 (s.set k o) ((k,o)::H):=by
 have hn:=h.ada hk
 obtain⟨h1,h2,h3⟩:=h
 have h0:s0 k=none:=by
  cases e:s0 k with
  |none=>rfl
  |some x=>rw[h1 k x e]at hk;cases hk
 refine⟨h1.set hk,fun p hp=>?_,by rw[List.map_cons];exact List.nodup_cons.2 ⟨hn,h3⟩⟩
 rcases List.mem_cons.1 hp with rfl|hp
 ·exact⟨bd ..,h0⟩
 ·obtain⟨q1,q2⟩:=h2 p hp
  exact⟨by rw[ai (fun e=>by rw[e,hk]at q1;cases q1)];exact q1,q2⟩
theorem Holds.sub{s0 s s':ab}{H:List (Nat×SO)}(h:Holds s0 s H)(hs:Sub s s'):Holds s0 s' H:=⟨fun b o hb=>hs b o (h.1 b o hb),fun p hp=>⟨hs _ _ (h.2.1 p hp).1,(h.2.1 p hp).2⟩,h.2.2⟩
theorem Tj{s:ab}{k j:Nat}(h:j≠k):(s.del k) j=s j:=by unfold ab.del;rw[if_neg h]
theorem KN{s:ab}{k:Nat}{o:SO}(h:s k=some o):(s.del k).set k o=s:=by
 funext i
 unfold ab.set ab.del
 by_cases e:i=k
 ·subst e;simp[h]
 ·simp[e]
theorem Holds.del{s0 s:ab}{k:Nat}{o:SO}{H:List (Nat×SO)}(h:Holds s0 s ((k,o)::H)):Holds s0 (s.del k) H∧(s.del k) k=none:=by
 obtain⟨h1,h2,h3⟩:=h
 have h0:=(h2 _ List.mem_cons_self).2
 refine⟨⟨fun b x hb=>?_,fun p hp=>?_,(List.nodup_cons.1 h3).2⟩,by unfold ab.del;simp⟩
 ·rw[Tj (fun e=>by subst e;rw[h0]at hb;cases hb)];exact h1 b x hb
 ·obtain⟨q1,q2⟩:=h2 p (List.mem_cons_of_mem _ hp)
  refine⟨?_,q2⟩
  rw[Tj (fun e=>?_)];exact q1
  have:=(List.nodup_cons.1 h3).1
  exact this (by show k∈H.map Prod.fst;rw[←e];exact List.mem_map_of_mem hp)
section
variable{α:Type}[aH α]
def nZ(r:cG)(l:List α):List (Nat×SO):=match r with
 |none=>[]
 |some (b,_,sp)=>[(b,.cells (flat l++sp))]
def Qc(r:cG)(l:List α):Prop:=match r with
 |none=>l=[]
 |some (_,cap,sp)=>0<cap∧l.length≤cap∧(flat l++sp).length=cap*aH.w α∧views sp=sp
theorem Holds.row{s0 s:ab}{r:cG}{l:List α}{H:List (Nat×SO)}(h:Holds s0 s (nZ r l++H))(hf:Qc r l):∃s1,s=fC s1 r l∧fI s1 r l∧Holds s0 s1 H:=by
 cases r with
 |none=>exact⟨s,rfl,hf,h⟩
 |some x=>
  obtain⟨b,cap,sp⟩:=x
  have h':Holds s0 s ((b,.cells (flat l++sp))::H):=h
  obtain⟨h1,h2⟩:=h'.del
  exact⟨s.del b,(KN h'.get).symm,⟨h2,hf⟩,h1⟩
theorem Holds.Ym{s0 s1:ab}{r:cG}{l:List α}{H:List (Nat×SO)}(h:Holds s0 s1 H)(ho:fI s1 r l):Holds s0 (fC s1 r l) (nZ r l++H)∧Qc r l:=by
 cases r with
 |none=>exact⟨h,ho⟩
 |some x=>
  obtain⟨b,cap,sp⟩:=x
  exact⟨h.alloc ho.1,ho.2⟩
end
end Go.AB
end
section
set_option maxRecDepth 4000
namespace Go.AB
open Go
attribute[-go_sem] Nat.add_zero lf bC
def kJ:IC:=
 (ae [cV 2 (.bool false)] [0]
 (ae [mv 3 0,nc 4 3,fa 5 0 4,i1 6 (.aU [.bool false] false (.t 5)),mv 7 6,c9 8 0 7 true,cS 9 7 true (.nilCheck (.t 8)),fg 10 7 true 1 9,cS 11 7 true (.aU [.sl false 4 0 []] false (.t 10)),cS 12 7 true (.len 0 (.t 11)),jx 13 7 true .rem 12 2,jx 14 7 true .eql 13 0,pf 15 7 14,mv 2 15] [2]
 .ret))
def ks:List ay:=[⟨2,true,none⟩]
theorem sY:aC Go.Proofs.Tryz.prog 181 16 ks kJ=true:=by kernel_rfl
def nG:IC:=
 (ae [cV 2 (.dq)] [0]
 (.seq (ae [mv 3 0,nc 4 3,fa 5 3 4,i1 6 (.aU [.sl false 1 0 []] false (.t 5)),le 7 0 6,bn 8 .eql 7 0] [0,8]
 (.cond (.t 8) (ae [cV 2 (.dq)] [2]
 .ret)
 .skip))
 (.seq (.bD (some 13) [mv 9 0,nc 10 9,fa 11 3 10,i1 12 (.aU [.sl false 1 0 []] false (.t 11)),mv 13 0,nc 14 13,fa 15 3 14,i1 16 (.aU [.sl false 1 0 []] false (.t 15)),le 17 0 16,bn 18 .sub 17 1,ia 19 [.dq] 12 18,i1 20 (.aU [.dq] false (.t 19)),mv 2 20] [2])
 .ret)))
def mJ:List ay:=[⟨2,true,none⟩]
theorem yR:aC Go.Proofs.Tryz.prog 76 21 mJ nG=true:=by kernel_rfl
def lS:IC:=
 (ae [mi 4 0] [0,1]
 (.seq (ae [mv 6 0,c1 7 76 6,mv 5 7] [0,1,5]
 (.seq (.bD (some 5) [mv 8 5,i1 9 (.M4 true (.t 8) (.c (.dq))),mv 10 9,c9 11 5 10 true,Qa 12 10 true 181 11,pf 13 10 12] [0,1,13])
 (.cond (.t 13) (ae [mi 4 11] [4]
 .ret)
 .skip)))
 (.seq (ae [mv 14 0,nc 15 14,fa 16 3 15,ld 17 1 16,le 18 0 17,bn 19 .geq 18 64] [0,1,19]
 (.cond (.t 19) (ae [mi 4 15] [4]
 .ret)
 .skip))
 (ae [mv 20 0,mv 21 0,nc 22 21,fa 23 3 22,ld 24 1 23,mv 25 1,i1 26 (.build [.bool false,.arr 0 0 0 0] [(0,1,(.t 25))]),i1 27 (.mP 2 (.t 26)),i1 28 (.aY 1 1 [.dq] [(0,1,(.t 27))]),i1 29 (.ee 1 8 [.dq] (.t 24) (.t 28)),nc 30 20,fa 31 3 30,st 1 31 29] []
 (ae [mi 4 0] [4]
 .ret)))))
def kS:List ay:=[⟨4,true,none⟩]
theorem um:aC Go.Proofs.Tryz.prog 128 32 kS lS=true:=by kernel_rfl
def nE:IC:=
 (ae [i1 4 (.aq gB),mi 5 0] [0,1,4]
 (ae [mv 9 0,c1 10 76 9,mv 6 10] [0,1,4,6]
 (.seq (.block 0 (ae [mv 12 6,i1 13 (.M4 false (.t 12) (.c (.dq))),mv 14 13,c9 15 6 14 false,cS 16 14 false (.nilCheck (.t 15)),fg 17 14 false 0 16,lg 18 14 false 1 17,c9 19 1 14 false,cS 20 14 false (.Pa true (.t 18) (.t 19)),po 21 14 20,mv 22 21,c9 23 1 22 false,c9 24 23 22 false,c9 25 6 24 true,Qa 26 24 true 181 25,cS 27 24 true (.un .not (.t 26)),cS 28 22 false (.pick (.t 24) (.t 27) (.c (.bool false))),po 29 22 28,mv 11 29] [0,1,4,6,11]
 (.cond (.t 11) (ae [i1 30 (.build gB []),st 4 4 30,mi 5 11] [4,5]
 .ret)
 (ae [mv 32 1,no 33 32,mv 31 33] [0,4,6,31]
 (.cond (.t 31) (.seq (.bD (some 14) [mv 34 0,mv 35 0,nc 36 35,fa 37 3 36,ld 38 1 37,mv 39 0,nc 40 39,fa 41 3 40,ld 42 1 41,le 43 0 42,bn 44 .sub 43 1,Mz 45 1 38 44,nc 46 34,fa 47 3 46,st 1 47 45] [4,6])
 (ae [mv 48 6,nc 49 48,fa 50 1 49,i1 51 (.xJ 4 false (.t 50)),i1 52 (.build gB [(0,1,(.c (.int .i64 6))),(3,1,(.t 51))]),st 4 4 52,mi 5 0] [4,5]
 .ret))
 .skip)))))
 (ae [mv 54 6,nc 55 54,fa 56 1 55,i1 57 (.xJ 4 false (.t 56)),c1 58 182 57,iw 53 58,ex 59 53 0,ex 60 53 1,mv 7 59,mv 8 60] [0,4,7,8]
 (.seq (ae [mv 61 8,bn 62 .neq 61 0] [0,4,7,8,62]
 (.cond (.t 62) (ae [i1 63 (.build gB []),mv 64 8,st 4 4 63,mv 5 64] [4,5]
 .ret)
 .skip))
 (.seq (.bD (some 14) [mv 65 0,mv 66 0,nc 67 66,fa 68 3 67,ld 69 1 68,mv 70 0,nc 71 70,fa 72 3 71,ld 73 1 72,le 74 0 73,bn 75 .sub 74 1,Mz 76 1 69 75,nc 77 65,fa 78 3 77,st 1 78 76] [4,7])
 (ae [mv 79 7,i1 80 (.build gB [(0,1,(.c (.int .i64 7))),(3,1,(.t 79))]),st 4 4 80,mi 5 0] [4,5]
 .ret)))))))
def mH:List ay:=[⟨4,false,some (4,true)⟩,⟨5,true,none⟩]
theorem yP:aC Go.Proofs.Tryz.prog 129 81 mH nE=true:=by kernel_rfl
def kK:IC:=
 (ae [i1 3 (.cW 8 (.t 1)),i1 4 (.aq gB),mi 5 0] [0,3,4]
 (.seq (ae [mv 7 0,c1 8 76 7,mv 6 8] [0,3,4,6]
 (ae [mv 9 6,i1 10 (.M4 true (.t 9) (.c (.dq))),mv 11 10,c9 12 6 11 true,Qa 13 11 true 181 12,pf 14 11 13,mv 15 14,fg 16 15 true 0 3,lg 17 15 true 1 16,jx 18 15 true .neq 17 1,c9 19 18 15 true,fg 20 19 false 3 3,fg 21 19 false 0 20,lg 22 19 false 1 21,jx 23 19 false .neq 22 5,cS 24 15 true (.pick (.t 19) (.c (.bool true)) (.t 23)),pf 25 15 24] [0,3,4,25]
 (.cond (.t 25) (ae [i1 26 (.build gB []),st 4 4 26,mi 5 11] [4,5]
 .ret)
 .skip)))
 (.seq (.block 0 (ae [fa 28 0 3,ld 29 1 28,bn 30 .eql 29 6,mv 27 30] [0,3,4,27]
 (.cond (.t 27) (ae [fa 31 7 3,ld 32 1 31,c1 33 183 32,ex 34 33 0,ex 35 33 1,st 4 4 34,mv 5 35] [4,5]
 .ret)
 (ae [lm 37 8 3,c1 38 124 37,mv 36 38] [0,3,4,36]
 (.cond (.t 36) (ae [mv 39 0,fa 40 3 3,lm 41 4 40,c2 42 184 39 41,ex 43 42 0,ex 44 42 1,st 4 4 43,mv 5 44] [4,5]
 .ret)
 .skip)))))
 (ae [fa 45 3 3,lm 46 4 45,st 4 4 46,mi 5 0] [4,5]
 .ret))))
def ku:List ay:=[⟨4,false,some (4,true)⟩,⟨5,true,none⟩]
theorem sZ:aC Go.Proofs.Tryz.prog 130 47 ku kK=true:=by kernel_rfl
def mz:IC:=
 (ae [i1 3 (.cW 8 (.t 1)),i1 4 (.aq gB),cV 5 (.bool false),mi 6 0] [0,3,4]
 (ae [i1 7 (.aq gB)] [0,3,4,7]
 (ae [mi 8 0] [0,3,4,7]
 (.seq (ae [fa 9 0 3,ld 10 1 9] [0,3,4,7,10]
 (.block 0 (ae [bn 28 .eql 10 0,mv 27 28] [0,3,4,7,10,27]
 (.cond (.t 27) (ae [lm 29 4 7,st 4 4 29,cV 5 (.bool false),mi 6 10] [4,5,6]
 .ret)
 (.seq (ae [bn 31 .eql 10 2,mv 30 31] [0,3,4,7,10,30]
 (.cond (.t 30) .skip
 (.bD none [bn 32 .eql 10 4,mv 30 32] [0,3,4,7,10,30])))
 (.cond (.t 30) (.seq (.IP [4] [(1,0,lm 33 4 7),(0,1,mv 34 0),(0,2,fa 35 0 3),(0,3,ld 36 1 35),(0,4,bn 37 .eql 36 4),(2,5,c2 38 128 34 37),(0,6,st 4 4 33),(0,7,cV 5 (.bool false)),(0,8,mv 6 38)] [4,5,6])
 .ret)
 (.seq (ae [bn 40 .eql 10 3,mv 39 40] [0,3,4,7,10,39]
 (.cond (.t 39) .skip
 (.bD none [bn 41 .eql 10 5,mv 39 41] [0,3,4,7,39])))
 (.cond (.t 39) (.bD none [mv 43 0,fa 44 0 3,ld 45 1 44,bn 46 .eql 45 5,c2 47 129 43 46,iw 42 47,ex 48 42 0,ex 49 42 1,st 4 7 48,mv 8 49] [4,7,8])
 (ae [mv 12 0,lm 13 8 3,c2 14 130 12 13,iw 11 14,ex 15 11 0,ex 16 11 1,st 4 7 15,mv 8 16] [0,4,7,8]
 (ae [mv 17 8,bn 18 .eql 17 0,mv 19 18,c9 20 0 19 true,cS 21 19 true (.nilCheck (.t 20)),fg 22 19 true 3 21,lg 23 19 true 1 22,cS 24 19 true (.len 0 (.t 23)),jx 25 19 true .geq 24 64,pf 26 19 25] [4,7,8,26]
 (.cond (.t 26) (.bD none [mi 8 15] [4,7,8])
 .skip)))))))))))
 (ae [lm 50 4 7,mv 51 8,bn 52 .eql 51 0,mv 53 8,st 4 4 50,mv 5 52,mv 6 53] [4,5,6]
 .ret)))))
def mb:List ay:=[⟨4,false,some (4,true)⟩,⟨5,true,none⟩,⟨6,true,none⟩]
theorem wP:aC Go.Proofs.Tryz.prog 75 54 mb mz=true:=by kernel_rfl
structure OI where
 n:Option Nat
def OI.c(x:OI):AV:=match x.n with
 |none=>.dq
 |some b=>.ref b 0
instance:aH OI:=⟨1,fun x=>[x.c],⟨none⟩,by decide,fun _=>rfl,fun x=>by obtain⟨_|b⟩:=x<;>rfl⟩
def refs(ids:List (Nat×cG)):List OI:=ids.map fun i=>⟨some i.1⟩
def TW(r:cG)(v:cE):SO:=.cells [.bool v.fL,gH r v.l_.length]
def lvH(id:Nat×cG)(v:cE):List (Nat×SO):=(id.1,TW id.2 v)::nZ id.2 v.l_
def DB:List (Nat×cG)→List cE→List (Nat×SO)
 |id::ids,v::vs=>lvH id v++DB ids vs
 |_,_=>[]
def VQ:List (Nat×cG)→List cE→Prop
 |id::ids,v::vs=>Qc id.2 v.l_∧VQ ids vs
 |[],[]=>True
 |_,_=>False
theorem qk:∀{ids:List (Nat×cG)}{vs:List cE},VQ ids vs→ids.length=vs.length
 |[],[],_=>rfl
 |_::ids,_::vs,h=>by rw[List.length_cons,List.length_cons,qk h.2]
 |[],_::_,h=>h.elim
 |_::_,[],h=>h.elim
structure PS where
 b:List UInt8
 at_:Int
 last:Bool
 st:List cE
def iq(p:PS)(rr:cG):List AV:=[.sl false 1 p.b.length (flat p.b),.int .i64 p.at_,.bool p.last,gH rr p.st.length]
def re(s0 s:ab)(B:Nat)(p:PS)(rr:cG)(ids:List (Nat×cG)):Prop:=VQ ids p.st∧Qc rr (refs ids.reverse)∧Holds s0 s ((B,.cells (iq p rr))::(nZ rr (refs ids.reverse)++DB ids p.st))
theorem qu(ids:List (Nat×cG)):(refs ids).length=ids.length:=by unfold refs;simp
theorem re.cell{s0 s:ab}{B:Nat}{p:PS}{rr:cG}{ids:List (Nat×cG)}(h:re s0 s B p rr ids):s B=some (.cells (iq p rr)):=h.2.2.get
theorem re.ref{s0 s:ab}{B:Nat}{p:PS}{rr:cG}{id:Nat×cG}{ids:List (Nat×cG)}(h:re s0 s B p rr (id::ids)):
 ∃rb cap sp,rr=some (rb,cap,sp)∧s rb=some (.cells (flat (refs (id::ids).reverse)++sp))∧(flat (refs (id::ids).reverse)++sp)[ids.length]? =some (.ref id.1 0):=by
 obtain⟨h1,h2,h3⟩:=h
 have hl:0<(refs (id::ids).reverse).length:=by rw[qu];simp
 cases rr with
 |none=>rw[show refs (id::ids).reverse=[] from h2]at hl;simp at hl
 |some x=>
  obtain⟨rb,cap,sp⟩:=x
  refine⟨rb,cap,sp,rfl,h3.mem (by simp[nZ]),?_⟩
  have hi:ids.length<(refs (id::ids).reverse).length:=by rw[qu];simp
  have:=rl (refs (id::ids).reverse) sp (i:=ids.length) (r:=0) hi (by decide)
  rw[show ids.length*aH.w OI+0=ids.length by show ids.length*1+0=_;omega]at this
  rw[this]
  have e:(refs (id::ids).reverse)[ids.length]=⟨some id.1⟩:=by
   unfold refs
   simp
  rw[e];rfl
theorem Rc{cs:List AV}{off:Nat}{a:AV}(h:cs[off]? =some a):off+1≤cs.length∧AB.sub cs off 1=[a]:=by
 obtain⟨h1,h2⟩:=List.getElem?_eq_some_iff.1 h
 refine⟨h1,?_⟩
 unfold AB.sub
 rw[List.drop_eq_getElem_cons h1,h2];rfl
theorem R0{cs:List AV}{off b:Nat}(h:cs[off]? =some (.ref b 0)):NL [.dq] false off (some (.cells cs))=.prt (off+1≤cs.length) (.ref b 0):=by
 show XA _ (mq false (pad [.dq] (views (AB.sub cs off 1))))=_
 rw[(Rc h).2]
 rfl
theorem L6{s0 s:ab}{B:Nat}{p:PS}{rr:cG}{ids:List (Nat×cG)}(h:re s0 s B p rr ids)(hroom:p.st.length≤room){Q:List AV→ab→Prop}(hn:p.st=[]→Q [.dq] s)
 (hc:∀id ids' v vs,ids=id::ids'→p.st=v::vs→Q [.ref id.1 0] s):FN Go.Proofs.Tryz.prog 76 [.ref B 0] s Q:=by
 have hB:=h.cell
 have hlen:=qk h.1
 refine FN.of (af mix) yR rfl (Nat.le_of_ble_eq_true rfl) ?_
 rw[nG,mJ]
 unfold iq at hB
 simp -implicitDefEqProofs only[go_sem,seval,hB]
 refine⟨fun he=>hn (List.eq_nil_of_length_eq_zero (by simpa using he)),fun hne=>?_⟩
 have hne:p.st.length≠0:=by simpa using hne
 cases hst:p.st with
 |nil=>rw[hst]at hne;exact absurd rfl hne
 |cons v vs=>
 cases ids with
 |nil=>rw[hst]at hlen;simp at hlen
 |cons id ids'=>
 obtain⟨rb,cap,sp,rfl,h1,h2⟩:=h.ref
 have hl:p.st.length=ids'.length+1:=by rw[←hlen];rfl
 rw[←hst]
 have hr:room=140737488355328:=rfl
 have hw:bz ((p.st.length:Int) -1)=(ids'.length:Int):=by rw[aS (by omega) (by omega)];omega
 rw[hw]
 refine⟨by omega,?_⟩
 show qK _ _ _ (NL _ _ _ (s rb))
 rw[h1,Int.toNat_natCast,Nat.mul_one,R0 h2]
 simp -implicitDefEqProofs only[go_sem,seval]
 exact⟨by have:=(Rc h2).1;rwa[List.length_append]at this,hc id ids' v vs rfl hst⟩
theorem Ha{s:ab}{B n:Nat}{d:Bool}{r:cG}{Q:List AV→ab→Prop}(hB:s B=some (.cells [.bool d,gH r n]))(hq:Q [.bool (d&&((n:Int).tmod 2==0))] s):FN Go.Proofs.Tryz.prog 181 [.ref B 0] s Q:=by
 refine FN.of (af mix) sY rfl (Nat.le_of_ble_eq_true rfl) ?_
 rw[kJ,ks]
 simp -implicitDefEqProofs only[go_sem,seval,hB]
 exact hq
def eb:List cE→Bool
 |[]=>false
 |v::_=>v.fL&&((v.l_.length:Int).tmod 2==0)
theorem re.lv{s0 s:ab}{B:Nat}{p:PS}{rr:cG}{id:Nat×cG}{ids:List (Nat×cG)}{v:cE}{vs:List cE}(h:re s0 s B p rr (id::ids))(hst:p.st=v::vs):s id.1=some (TW id.2 v):=by
 refine h.2.2.mem ?_
 rw[hst]
 simp[DB,lvH]
theorem qt(id:Nat×cG)(ids:List (Nat×cG)):refs (id::ids).reverse=refs ids.reverse++[⟨some id.1⟩]:=by unfold refs;simp
theorem Ju{σ:St}{d:Option Nat}{K:St→Prop}{s0 s:ab}{B b:Nat}{p:PS}{rr:cG}{ids:List (Nat×cG)}{dict:Bool}(h:re s0 s B p rr ids)(hroom:p.st.length≤64)(hb:s b=none)(hσ:σ.s=s.set b (.cells [.bool dict,.arr 0 0 0 0]))
 (hK:∀s1 rr',s1 B=some (.cells (iq p rr))→(∃ids',re s0 (s1.set B (.cells (iq {p with st:=⟨dict,[]⟩::p.st} rr'))) B {p with st:=⟨dict,[]⟩::p.st} rr' ids')→K ({σ with s:=s1}.put d (gH rr' (p.st.length+1)))):
 dX 1 8 [.dq] σ d K (gH rr p.st.length) (s5 σ.s 1 (.sl true 1 1 [.ref b 0])):=by
 obtain⟨h1,h2,h3⟩:=h
 have hlen:=qk h1
 have hr:room=140737488355328:=rfl
 have hl:(refs ids.reverse).length=p.st.length:=by rw[qu];simp[hlen]
 have H0:=h3.alloc (o:=.cells [.bool dict,.arr 0 0 0 0]) hb
 have H0':Holds s0 (s.set b (.cells [.bool dict,.arr 0 0 0 0])) (nZ rr (refs ids.reverse)++([(b,.cells [.bool dict,.arr 0 0 0 0]),(B,.cells (iq p rr))]++DB ids p.st)):=H0.perm (List.perm_append_comm_assoc [(b,SO.cells [.bool dict,.arr 0 0 0 0]),(B,SO.cells (iq p rr))] _ _)
 obtain⟨s1,e,ok,H1⟩:=H0'.row h2
 rw[ft,←hl]
 refine vY (z:=(⟨none⟩:OI)) (v:=(⟨some b⟩:OI)) (hσ.trans e) ok rfl (by rw[hl];omega) fun s' r' hs' ok'=>?_
 rw[hl]
 obtain⟨H2,hf⟩:=(H1.sub hs').Ym ok'
 have H3:Holds s0 (fC s' r' (refs ids.reverse++[⟨some b⟩])) ((B,.cells (iq p rr))::(nZ r' (refs ids.reverse++[⟨some b⟩])++((b,.cells [.bool dict,.arr 0 0 0 0])::DB ids p.st))):=by
  refine H2.perm ?_
  refine(List.perm_append_comm_assoc _ [(b,SO.cells [.bool dict,.arr 0 0 0 0]),(B,SO.cells (iq p rr))] _).trans ?_
  refine(List.Perm.swap ..).trans ?_
  refine List.Perm.cons _ ?_
  exact List.perm_append_comm_assoc [(b,SO.cells [.bool dict,.arr 0 0 0 0])] _ _
 refine hK _ r' H3.get ⟨(b,none)::ids,⟨rfl,h1⟩,?_,?_⟩
 ·rw[qt];exact hf
 ·rw[qt]
  exact H3.set
theorem SY{s0 s:ab}{B:Nat}{p:PS}{rr:cG}{ids:List (Nat×cG)}(h:re s0 s B p rr ids)(hroom:p.st.length≤64){dict:Bool}{Q:List AV→ab→Prop}(he:eb p.st=true→Q [.int .i64 11] s)
 (hd:eb p.st=false→64≤p.st.length→Q [.int .i64 15] s)
 (hk:eb p.st=false→p.st.length<64→∀s' rr' ids',re s0 s' B {p with st:=⟨dict,[]⟩::p.st} rr' ids'→Q [.int .i64 0] s'):FN Go.Proofs.Tryz.prog 128 [.ref B 0,.bool dict] s Q:=by
 have hB:=h.cell
 have hlen:=qk h.1
 have hr:room=140737488355328:=rfl
 have rest:eb p.st=false→∀(Q':Prop),Q'→Q':=fun _ _ x=>x
 refine FN.of (af mix) um rfl (Nat.le_of_ble_eq_true rfl) ?_
 rw[lS,kS]
 unfold iq at hB
 simp -implicitDefEqProofs only[go_sem,seval]
 refine L6 h (by omega) (fun hst=>?_) (fun id ids' v vs hids hst=>?_)
 ·simp -implicitDefEqProofs only[go_sem,seval,hB]
  refine⟨[.bool false],rfl,fun h=>(by cases h),?_⟩
  have hw:eb p.st=false:=by rw[hst];rfl
  simp -implicitDefEqProofs only[go_sem,seval,hB,Bool.false_and,Bool.and_false]
  refine⟨fun hx=>he (by first|exact hx|exact absurd hx id),fun hx=>?_⟩
  have hw:eb p.st=false:=by first|exact hw|exact hx
  refine⟨fun hx=>hd hw (by have:=of_decide_eq_true hx;omega),fun hx b hb=>?_⟩
  have hlt:p.st.length<64:=by have:=of_decide_eq_false hx;omega
  refine Ju h hroom hb rfl fun s1 rr' hB1⟨ids',hst'⟩=>?_
  unfold iq at hB1
  simp -implicitDefEqProofs only[go_sem,seval,hB1]
  exact hk hw hlt _ _ _ hst'
 ·simp -implicitDefEqProofs only[go_sem,seval,hB]
  subst hids
  have hlv:=h.lv hst
  refine⟨[.bool (eb p.st)],rfl,fun _=>⟨_,rfl,Ha hlv (by rw[hst];exact⟨rfl,rfl⟩)⟩,?_⟩
  simp -implicitDefEqProofs only[go_sem,seval,hB,Bool.true_and,Bool.and_true]
  refine⟨fun hx=>he (by first|exact hx|exact absurd hx id),fun hx=>?_⟩
  have hw:eb p.st=false:=by first|exact hw|exact hx
  refine⟨fun hx=>hd hw (by have:=of_decide_eq_true hx;omega),fun hx b hb=>?_⟩
  have hlt:p.st.length<64:=by have:=of_decide_eq_false hx;omega
  refine Ju h hroom hb rfl fun s1 rr' hB1⟨ids',hst'⟩=>?_
  unfold iq at hB1
  simp -implicitDefEqProofs only[go_sem,seval,hB1]
  exact hk hw hlt _ _ _ hst'
theorem acu{σ:St}{d:Option Nat}{K:St→Prop}{s0:ab}{R:List (Nat×SO)}{r:cG}{l:List aa}(hσ:Holds s0 σ.s (nZ r l++R))(hf:Qc r l)
 (hK:∀s2,Holds s0 s2 R→K ({σ with s:=s2}.put d (.sl false 4 l.length (flat l)))):Df 4 false σ d K (gH r l.length):=by
 cases r with
 |none=>
  obtain rfl:l=[]:=hf
  exact .inl ⟨rfl,rfl,rfl,hK σ.s hσ⟩
 |some x=>
  obtain⟨b,cap,sp⟩:=x
  obtain⟨f1,f2,f3,f4⟩:=hf
  have hσ':Holds s0 σ.s ((b,.cells (flat l++sp))::R):=hσ
  refine .inr ⟨f1,f2,fun h=>(by cases h),?_⟩
  have hle:0+l.length*4≤(flat l++sp).length:=by rw[f3,Nat.zero_add];exact Nat.mul_le_mul_right _ f2
  have hc:ja l.length 4 0 (σ.s b)=some (l.length,flat l):=by
   rw[hσ'.get]
   unfold ja
   simp only[decide_eq_true hle,cond_true]
   have:=fH l sp 4 0 l.length rfl (by omega)
   rw[Nat.zero_mul]at this
   rw[this,List.drop_zero,List.take_length,aD]
  show Df.frzK 4 false σ d K b l.length (ja l.length 4 0 (σ.s b))
  rw[hc]
  exact hK _ hσ'.del.1
theorem re.pop{s0 s:ab}{B:Nat}{p:PS}{rr:cG}{id:Nat×cG}{ids:List (Nat×cG)}{v:cE}{vs:List cE}(h:re s0 s B p rr (id::ids))(hst:p.st=v::vs):
 ∃rr',Oh rr'=Oh rr∧LS rr'=LS rr∧Qc rr' (refs ids.reverse)∧VQ ids vs∧Qc id.2 v.l_∧Holds s0 s ((B,.cells (iq p rr))::(nZ rr' (refs ids.reverse)++(lvH id v++DB ids vs))):=by
 have hr:=h.ref
 obtain⟨rb,cap,sp,rfl,_,_⟩:=hr
 obtain⟨h1,h2,h3⟩:=h
 rw[hst]at h1 h3
 obtain⟨f1,f2,f3,f4⟩:=h2
 have e:flat (refs (id::ids).reverse)++sp=flat (refs ids.reverse)++(.ref id.1 0::sp):=by rw[qt,bO,List.append_assoc];rfl
 refine⟨some (rb,cap,.ref id.1 0::sp),rfl,rfl,⟨f1,?_,?_,?_⟩,h1.2,h1.1,?_⟩
 ·rw[qu]at f2⊢;simp at f2⊢;omega
 ·rw[←e];exact f3
 ·unfold views at f4⊢;rw[List.map_cons,f4];rfl
 ·unfold nZ at h3⊢
  simp only[]at h3⊢
  rw[←e]
  exact h3
theorem QW{s0 s:ab}{X:Nat×SO}{R T:List (Nat×SO)}{id:Nat×cG}{v:cE}(h:Holds s0 s (X::(R++(lvH id v++T)))):Holds s0 s (nZ id.2 v.l_++(X::(R++T))):=by
 have p1:(X::(R++(lvH id v++T))).Perm ((id.1,TW id.2 v)::((X::R)++(nZ id.2 v.l_++T))):=List.perm_middle (l₁:=X::R)
 have p2:((X::R)++(nZ id.2 v.l_++T)).Perm (nZ id.2 v.l_++((X::R)++T)):=List.perm_append_comm_assoc ..
 exact(h.perm p1).tail.perm p2
def UZ:List AV:=[.int .i64 0,.int .i64 0,.str [],.sl false 4 0 []]
def tD(st:List cE)(dict:Bool):Bool:=match st with
 |[]=>true
 |v::_=>(v.fL !=dict)||(dict&&!eb st)
abbrev zq(pf:List aa→Option (List aa×Int)):Prop:=∀(s:ab)(l:List aa)(r:List aa×Int),pf l=some r→FE Go.Proofs.Tryz.prog 182 [.sl false 4 l.length (flat l)] s [.sl false 4 r.1.length (flat r.1),.int .i64 r.2] s
@[go_sem]theorem TY:lq .dq=.no:=rfl
@[go_sem]theorem SH(o:Nat)(x:IX):fy o x (.fE [])=.no:=rfl
@[go_sem]theorem ae5(σ:St)(n:Nat):rd σ (.fE []) n=none:=rfl
@[go_sem]theorem ad2(op:UnOp):Yl op (.fE [])=.no:=by cases op<;>rfl
@[go_sem]theorem aaG(ne:Bool)(y:AV):Pb ne (.fE []) y=.no:=rfl
theorem YS{pf:List aa→Option (List aa×Int)}(hpf:zq pf){s0 s:ab}{B:Nat}{p:PS}{rr:cG}{ids:List (Nat×cG)}(h:re s0 s B p rr ids)(hroom:p.st.length≤64){dict:Bool}{Q:List AV→ab→Prop}
 (h0:tD p.st dict=true→Q [.agg UZ,.int .i64 11] s)
 (hA:∀v vs,p.st=v::vs→dict=false→tD p.st dict=false→∀s' rr' ids',re s0 s' B {p with st:=vs} rr' ids'→Q [.agg [.int .i64 6,.int .i64 0,.str [],.sl false 4 v.l_.length (flat v.l_)],.int .i64 0] s')
 (hD:∀v vs,p.st=v::vs→dict=true→tD p.st dict=false→ok (pf v.l_) fun r=>(r.2≠0→∀s',Sub s0 s'→Q [.agg UZ,.int .i64 r.2] s')∧
   (r.2=0→∀s' rr' ids',re s0 s' B {p with st:=vs} rr' ids'→Q [.agg [.int .i64 7,.int .i64 0,.str [],.sl false 4 r.1.length (flat r.1)],.int .i64 0] s')):FN Go.Proofs.Tryz.prog 129 [.ref B 0,.bool dict] s Q:=by
 have hB:=h.cell
 have hlen:=qk h.1
 have hr:room=140737488355328:=rfl
 refine FN.of (af mix) yP rfl (Nat.le_of_ble_eq_true rfl) ?_
 rw[nE,mH]
 unfold iq at hB
 simp -implicitDefEqProofs only[go_sem,start,aI,aV,ct,cX,cK,cT,Nat.reduceBEq,Nat.reduceAdd,Nat.reduceMul,Nat.reduceLeDiff,Nat.reduceEqDiff,Nat.reduceBNe,Nat.ble_eq,UInt8.reduceToNat,UInt32.reduceToNat]
 refine L6 h (by omega) (fun hst=>?_) (fun id ids' v vs hids hst=>?_)
 ·have hbad:tD p.st dict=true:=by rw[hst];rfl
  simp -implicitDefEqProofs only[go_sem,start,aI,aV,ct,cX,cK,cT,Nat.reduceBEq,Nat.reduceAdd,Nat.reduceMul,Nat.reduceLeDiff,Nat.reduceEqDiff,Nat.reduceBNe,Nat.ble_eq,UInt8.reduceToNat,UInt32.reduceToNat,hB,Bool.true_eq_false,false_implies,true_implies,true_and]
  exact h0 hbad
 ·subst hids
  have hlv:=h.lv hst
  unfold TW at hlv
  have hbd:tD p.st dict=((v.fL !=dict)||(dict&&!eb p.st)):=by rw[hst];rfl
  have htw:eb p.st=(v.fL&&((v.l_.length:Int).tmod 2==0)):=by rw[hst];rfl
  simp -implicitDefEqProofs only[go_sem,start,aI,aV,ct,cX,cK,cT,Nat.reduceBEq,Nat.reduceAdd,Nat.reduceMul,Nat.reduceLeDiff,Nat.reduceEqDiff,Nat.reduceBNe,Nat.ble_eq,UInt8.reduceToNat,UInt32.reduceToNat,hB]
  cases hdv:v.fL<;>cases dict
  all_goals(rw[hdv]at hlv;simp -implicitDefEqProofs only[go_sem,start,aI,aV,ct,cX,cK,cT,Nat.reduceBEq,Nat.reduceAdd,Nat.reduceMul,Nat.reduceLeDiff,Nat.reduceEqDiff,Nat.reduceBNe,Nat.ble_eq,UInt8.reduceToNat,UInt32.reduceToNat,hB,hlv,Bool.true_eq_false,Bool.false_eq_true,false_implies,true_implies,true_and,and_true,beq_self_eq_true,Bool.and_self,Bool.not_true,Bool.not_false,Bool.and_false,Bool.false_and,Bool.and_true,Bool.true_and])
  ·have hbf:tD p.st false=false:=by rw[hbd,hdv];rfl
   obtain⟨rr',e1,e2,f1,f2,f3,H⟩:=h.pop hst
   have hcap:p.st.length≤LS rr:=by
    obtain⟨rb,cap,sp,rfl,_,_⟩:=h.ref
    have:=h.2.1.2.1
    rw[qu,List.length_reverse,hlen]at this
    exact this
   have hn:p.st.length=vs.length+1:=by rw[hst];rfl
   have hw:bz ((p.st.length:Int) -1)=(vs.length:Int):=by rw[aS (by omega) (by omega)];omega
   rw[hw]
   refine⟨⟨by omega,by omega,by omega⟩,?_⟩
   have H':=H.set (o':=.cells (iq {p with st:=vs} rr'))
   have es:iq {p with st:=vs} rr'=[.sl false 1 p.b.length (flat p.b),.int .i64 p.at_,.bool p.last,.arr (Oh rr) 0 (vs.length:Int).toNat (LS rr)]:=by
    unfold iq gH
    rw[e1,e2];rfl
   rw[es]at H'
   have hl2:=H'.mem (k:=id.1) (o:=TW id.2 v) (by simp[lvH])
   rw[hl2]
   unfold TW
   simp -implicitDefEqProofs only[go_sem,start,aI,aV,ct,cX,cK,cT,Nat.reduceBEq,Nat.reduceAdd,Nat.reduceMul,Nat.reduceLeDiff,Nat.reduceEqDiff,Nat.reduceBNe,Nat.ble_eq,UInt8.reduceToNat,UInt32.reduceToNat]
   refine acu (QW H') f3 fun s2 H2=>?_
   simp -implicitDefEqProofs only[go_sem,start,aI,aV,ct,cX,cK,cT,Nat.reduceBEq,Nat.reduceAdd,Nat.reduceMul,Nat.reduceLeDiff,Nat.reduceEqDiff,Nat.reduceBNe,Nat.ble_eq,UInt8.reduceToNat,UInt32.reduceToNat]
   exact hA v vs hst rfl hbf s2 rr' ids' ⟨f2,f1,by rw[es];exact H2⟩
  ·exact h0 (by rw[hbd,hdv];rfl)
  ·exact h0 (by rw[hbd,hdv];rfl)
  ·refine Ha hlv ?_
   simp -implicitDefEqProofs only[go_sem,start,aI,aV,ct,cX,cK,cT,Nat.reduceBEq,Nat.reduceAdd,Nat.reduceMul,Nat.reduceLeDiff,Nat.reduceEqDiff,Nat.reduceBNe,Nat.ble_eq,UInt8.reduceToNat,UInt32.reduceToNat,hB,hlv,Bool.true_eq_false,Bool.false_eq_true,false_implies,true_implies,true_and,and_true,beq_self_eq_true,Bool.and_self,Bool.not_true,Bool.not_false,Bool.and_false,Bool.false_and,Bool.and_true,Bool.true_and]
   have htw':eb p.st=((v.l_.length:Int).tmod 2==0):=by rw[htw,hdv];rfl
   refine⟨fun hx=>h0 (by rw[hbd,hdv,htw'];simpa using hx),fun hx=>?_⟩
   have hbf:tD p.st true=false:=by rw[hbd,hdv,htw'];simpa using hx
   obtain⟨rr',e1,e2,f1,f2,f3,H⟩:=h.pop hst
   refine acu (QW H) f3 fun s2 H2=>?_
   have hB2:=H2.get
   unfold iq at hB2
   obtain⟨r,hr1,hr2,hr3⟩:=hD v vs hst rfl hbf
   simp -implicitDefEqProofs only[go_sem,start,aI,aV,ct,cX,cK,cT,Nat.reduceBEq,Nat.reduceAdd,Nat.reduceMul,Nat.reduceLeDiff,Nat.reduceEqDiff,Nat.reduceBNe,Nat.ble_eq,UInt8.reduceToNat,UInt32.reduceToNat]
   refine FE.app (hpf s2 v.l_ r hr1) ⟨rfl,?_⟩
   simp -implicitDefEqProofs only[go_sem,start,aI,aV,ct,cX,cK,cT,Nat.reduceBEq,Nat.reduceAdd,Nat.reduceMul,Nat.reduceLeDiff,Nat.reduceEqDiff,Nat.reduceBNe,Nat.ble_eq,UInt8.reduceToNat,UInt32.reduceToNat,hB2]
   have hcap:p.st.length≤LS rr:=by
    obtain⟨rb,cap,sp,rfl,_,_⟩:=h.ref
    have:=h.2.1.2.1
    rw[qu,List.length_reverse,hlen]at this
    exact this
   have hn:p.st.length=vs.length+1:=by rw[hst];rfl
   have hw:bz ((p.st.length:Int) -1)=(vs.length:Int):=by rw[aS (by omega) (by omega)];omega
   rw[hw]
   have es:iq {p with st:=vs} rr'=[.sl false 1 p.b.length (flat p.b),.int .i64 p.at_,.bool p.last,.arr (Oh rr) 0 (vs.length:Int).toNat (LS rr)]:=by
    unfold iq gH
    rw[e1,e2];rfl
   refine⟨fun hx=>hr2 (by simpa using hx) s2 H2.1,fun hx=>⟨⟨by omega,by omega,by omega⟩,?_⟩⟩
   have H3:=H2.set (o':=.cells (iq {p with st:=vs} rr'))
   rw[es]at H3
   exact hr3 (by simpa using hx) _ rr' ids' ⟨f2,f1,by rw[es];exact H3⟩
end Go.AB
end
section
set_option maxRecDepth 4000
namespace Go.AB
open Go
attribute[-go_sem] Nat.add_zero lf bC
theorem Wq(b:List UInt8)(a:Int)(last:Bool)(o:AV)(v:aa){r:aa×Int×eJ}(h:ep ⟨b,a,last,.dq⟩ v=some r):ep ⟨b,a,last,o⟩ v=some (r.1,r.2.1,⟨b,r.2.2.at_,last,o⟩):=by
 unfold ep at h⊢
 simp only[]at h⊢
 cases h1:dB b a last with
 |none=>rw[h1]at h;cases h
 |some r1=>
  rw[h1]at h
  simp only[aP]at h⊢
  cases h2:fY (!(r1.2 !=0)) false (ie r1.1)with
  |none=>rw[h2]at h;cases h
  |some r2=>
   rw[h2]at h
   simp only[]at h⊢
   cases h3:((r1.2 !=0)||(!r2))with
   |true=>
    simp only[h3,if_true]at h⊢
    cases h4:gr r1.2 with
    |none=>rw[h4]at h;cases h
    |some r3=>rw[h4]at h;cases h;rfl
   |false=>
    simp only[h3,Bool.false_eq_true,if_false]at h⊢
    cases h4:dB b r1.1.To last with
    |none=>rw[h4]at h;cases h
    |some r4=>
     rw[h4]at h
     simp only[]at h⊢
     cases h5:(((r4.2 !=0)||(r4.1.Kind !=6))||(!(r4.1.S.b==(aA.mk [82]).b)))with
     |true=>
      first
      |(simp only[h5,if_true]at h;cases h;done)
      |(simp only[h5,if_true]at h⊢
        cases h6:gr r4.2 with
        |none=>rw[h6]at h;cases h
        |some r5=>rw[h6]at h;cases h;rfl)
     |false=>
      simp only[h5,Bool.false_eq_true,if_false]at h⊢
      cases h6:(((decide (v.N<1))||(decide (v.N>4096)))||(r1.1.V.N !=0))with
      |true=>first|(simp only[h6,if_true]at h;cases h;done)|(simp only[h6,if_true]at h⊢;cases h;rfl)
      |false=>first|(simp only[h6,Bool.false_eq_true,if_false]at h;cases h;done)|(simp only[h6,Bool.false_eq_true,if_false]at h⊢;cases h;rfl)
def zV:aa:=⟨0,0,⟨[]⟩,[]⟩
def vA(v:aa):AV:=.agg [.int .i64 v.Kind,.int .i64 v.N,.str v.S.b,.sl false 4 v.L.length (flat v.L)]
def tA(t:a8):AV:=.agg [.int .i64 t.Kind,.int .i64 t.bI,.int .i64 t.To,.int .i64 t.V.Kind,.int .i64 t.V.N,.str t.V.S.b,.sl false 4 t.V.L.length (flat t.V.L),.str t.S.b]
def LZ(p:PS)(t:a8):Option (aa×Int×Int):=
 if eb p.st&&(t.Kind !=1||t.V.Kind !=5)then some (zV,11,p.at_)
 else if t.Kind==6 then aP (rC t.S) fun r=>some (r.1,r.2,p.at_)
 else aP (ie t) fun w=>if w then aP (ep ⟨p.b,p.at_,p.last,.dq⟩ t.V) fun r=>some (r.1,r.2.1,r.2.2.at_)else some (t.V,0,p.at_)
theorem re.place{s0 s:ab}{B:Nat}{p:PS}{rr:cG}{ids:List (Nat×cG)}(h:re s0 s B p rr ids)(a:Int):re s0 (s.set B (.cells (iq {p with at_:=a} rr))) B {p with at_:=a} rr ids:=⟨h.1,h.2.1,h.2.2.set⟩
theorem Qb{s0 s:ab}{B:Nat}{p:PS}{rr:cG}{ids:List (Nat×cG)}(h:re s0 s B p rr ids){v:aa}{r:aa×Int×eJ}(hr:ep ⟨p.b,p.at_,p.last,.dq⟩ v=some r){Q:List AV→ab→Prop}
 (hq:∀s',re s0 s' B {p with at_:=r.2.2.at_} rr ids→Q [vA r.1,.int .i64 r.2.1] s'):FN Go.Proofs.Tryz.prog 184 [.ref B 0,vA v] s Q:=by
 refine y5 (s_0:=⟨p.b,p.at_,p.last,gH rr p.st.length⟩) h.cell ⟨_,Wq _ _ _ (gH rr p.st.length) _ hr,?_⟩
 exact hq _ (h.place _)
theorem Sv{s0 s:ab}{B:Nat}{p:PS}{rr:cG}{ids:List (Nat×cG)}(h:re s0 s B p rr ids)(hroom:p.st.length≤64){t:a8}{Q:List AV→ab→Prop}
 (hm:ok (LZ p t) fun r=>∀s',re s0 s' B {p with at_:=r.2.2} rr ids→Q [vA r.1,.int .i64 r.2.1] s'):FN Go.Proofs.Tryz.prog 130 [.ref B 0,tA t] s Q:=by
 have hB:=h.cell
 have hlen:=qk h.1
 have hr:room=140737488355328:=rfl
 unfold LZ at hm
 simp only[F0,dm,az]at hm
 obtain⟨m1,m2⟩:=hm
 refine FN.of (af mix) sZ rfl (Nat.le_of_ble_eq_true rfl) ?_
 rw[kK,ku]
 unfold iq at hB
 unfold tA
 simp -implicitDefEqProofs only[go_sem,seval]
 refine L6 h (by omega) (fun hst=>?_) (fun id ids' v vs hids hst=>?_)
 ·have htw:eb p.st=false:=by rw[hst];rfl
  rw[htw]at m1 m2
  simp -implicitDefEqProofs only[go_sem,seval,hB,Bool.true_eq_false,Bool.false_eq_true,false_implies,true_implies,true_and,and_true]
  refine⟨fun hk=>?_,fun hk=>?_⟩
  ·obtain⟨r,hr1,hr2⟩:=(m2 rfl).1 hk
   refine FE.app (pw hr1) ?_
   simp -implicitDefEqProofs only[go_sem,seval]
   exact hr2 s h
  ·obtain⟨w,hw1,hw2⟩:=(m2 rfl).2 hk
   refine FE.app (kp hw1) ?_
   simp -implicitDefEqProofs only[go_sem,seval]
   refine⟨fun hw=>?_,fun hw=>?_⟩
   ·obtain⟨r,hr1,hr2⟩:=hw2.1 hw
    refine Qb h hr1 fun s' hs'=>?_
    unfold vA
    simp -implicitDefEqProofs only[go_sem,seval]
    exact hr2 s' hs'
   ·exact hw2.2 hw s h
 ·subst hids
  have hlv:=h.lv hst
  simp -implicitDefEqProofs only[go_sem,seval,hB]
  refine⟨fun _=>Ha hlv ?_,fun hx=>by cases hx⟩
  have htw:(v.fL&&((v.l_.length:Int).tmod 2==0))=eb p.st:=by rw[hst];rfl
  rw[htw]
  cases hw:eb p.st<;>rw[hw]at m1 m2
  all_goals simp -implicitDefEqProofs only[go_sem,seval,hB,Bool.true_eq_false,Bool.false_eq_true,false_implies,true_implies,true_and,and_true]
  ·refine⟨fun hk=>?_,fun hk=>?_⟩
   ·obtain⟨r,hr1,hr2⟩:=(m2 rfl).1 hk
    refine FE.app (pw hr1) ?_
    simp -implicitDefEqProofs only[go_sem,seval]
    exact hr2 s h
   ·obtain⟨w,hw1,hw2⟩:=(m2 rfl).2 hk
    refine FE.app (kp hw1) ?_
    simp -implicitDefEqProofs only[go_sem,seval]
    refine⟨fun hw=>?_,fun hw=>?_⟩
    ·obtain⟨r,hr1,hr2⟩:=hw2.1 hw
     refine Qb h hr1 fun s' hs'=>?_
     unfold vA
     simp -implicitDefEqProofs only[go_sem,seval]
     exact hr2 s' hs'
    ·exact hw2.2 hw s h
  ·refine⟨fun hx=>m1 hx s h,fun hx=>?_⟩
   refine⟨fun hk=>?_,fun hk=>?_⟩
   ·obtain⟨r,hr1,hr2⟩:=(m2 hx).1 hk
    refine FE.app (pw hr1) ?_
    simp -implicitDefEqProofs only[go_sem,seval]
    exact hr2 s h
   ·obtain⟨w,hw1,hw2⟩:=(m2 hx).2 hk
    refine FE.app (kp hw1) ?_
    simp -implicitDefEqProofs only[go_sem,seval]
    refine⟨fun hw=>?_,fun hw=>?_⟩
    ·obtain⟨r,hr1,hr2⟩:=hw2.1 hw
     refine Qb h hr1 fun s' hs'=>?_
     unfold vA
     simp -implicitDefEqProofs only[go_sem,seval]
     exact hr2 s' hs'
    ·exact hw2.2 hw s h
def YR(pf:List aa→Option (List aa×Int))(p:PS)(dict:Bool):Option (aa×Int×PS):=
 bif tD p.st dict then some (zV,11,p)else
 match p.st with
 |[]=>none
 |v::vs=>bif dict then aP (pf v.l_) fun r=>bif r.2 !=0 then some (zV,r.2,p)else some (⟨7,0,⟨[]⟩,r.1⟩,0,{p with st:=vs})
  else some (⟨6,0,⟨[]⟩,v.l_⟩,0,{p with st:=vs})
def A8(p:PS)(dict:Bool):Int×PS:=bif eb p.st then(11,p)else bif decide (64≤p.st.length)then(15,p)else(0,{p with st:=⟨dict,[]⟩::p.st})
def WW(s0:ab)(B:Nat)(e:Int)(p:PS)(K:ab→Prop):Prop:=(e≠0→∀s',Sub s0 s'→K s')∧(e=0→∀s' rr' ids',re s0 s' B p rr' ids'→K s')
theorem WW.at{s0 s:ab}{B:Nat}{e:Int}{p:PS}{K:ab→Prop}{rr:cG}{ids:List (Nat×cG)}(q:WW s0 B e p K)(h:re s0 s B p rr ids):K s:=by
 by_cases he:e=0
 ·exact q.2 he _ _ _ h
 ·exact q.1 he _ h.2.2.1
theorem WW.mono{s0:ab}{B:Nat}{e:Int}{p:PS}{K K':ab→Prop}(q:WW s0 B e p K)(h:∀s',K s'→K' s'):WW s0 B e p K':=⟨fun he s' hs=>h _ (q.1 he s' hs),fun he s' rr' ids' hs=>h _ (q.2 he s' rr' ids' hs)⟩
theorem XF{pf:List aa→Option (List aa×Int)}(hpf:zq pf){s0 s:ab}{B:Nat}{p:PS}{rr:cG}{ids:List (Nat×cG)}(h:re s0 s B p rr ids)(hroom:p.st.length≤64){dict:Bool}{Q:List AV→ab→Prop}
 (hm:ok (YR pf p dict) fun r=>WW s0 B r.2.1 r.2.2 (Q [vA r.1,.int .i64 r.2.1])):FN Go.Proofs.Tryz.prog 129 [.ref B 0,.bool dict] s Q:=by
 unfold YR at hm
 refine YS hpf h hroom (fun hb=>?_) (fun v vs hst hd hb s' rr' ids' hs'=>?_) (fun v vs hst hd hb=>?_)
 ·rw[hb,cond_true,az]at hm
  exact hm.at h
 ·rw[hb,cond_false,hst]at hm
  subst hd
  simp only[cond_false,az]at hm
  exact hm.at hs'
 ·rw[hb,cond_false,hst]at hm
  subst hd
  simp only[cond_true,dm]at hm
  obtain⟨r,hr,hm⟩:=hm
  refine⟨r,hr,fun he s' hs'=>?_,fun he s' rr' ids' hs'=>?_⟩
  ·rw[show(r.2 !=0)=true by simpa using he,cond_true,az]at hm
   exact hm.1 he s' hs'
  ·rw[show(r.2 !=0)=false by simpa using he,cond_false,az]at hm
   exact hm.2 rfl s' rr' ids' hs'
theorem Qu{s0 s:ab}{B:Nat}{p:PS}{rr:cG}{ids:List (Nat×cG)}(h:re s0 s B p rr ids)(hroom:p.st.length≤64){dict:Bool}{Q:List AV→ab→Prop}
 (hm:WW s0 B (A8 p dict).1 (A8 p dict).2 (Q [.int .i64 (A8 p dict).1])):FN Go.Proofs.Tryz.prog 128 [.ref B 0,.bool dict] s Q:=by
 unfold A8 at hm
 refine SY h hroom (fun hw=>?_) (fun hw hl=>?_) (fun hw hl s' rr' ids' hs'=>?_)
 ·rw[hw,cond_true]at hm
  exact hm.at h
 ·rw[hw,cond_false,decide_eq_true hl,cond_true]at hm
  exact hm.at h
 ·rw[hw,cond_false,decide_eq_false (by omega),cond_false]at hm
  exact hm.at hs'
def UF(pf:List aa→Option (List aa×Int))(p:PS)(t:a8):Option (aa×Bool×Int×PS):=
 bif t.Kind==0 then some (zV,false,10,p)
 else bif t.Kind==2||t.Kind==4 then some (zV,false,(A8 p (t.Kind==4)).1,(A8 p (t.Kind==4)).2)
 else bif t.Kind==3||t.Kind==5 then aP (YR pf p (t.Kind==5)) fun r=>some (r.1,r.2.1==0,r.2.1,r.2.2)
 else aP (LZ p t) fun r=>bif r.2.1==0&&decide (64≤p.st.length)then some (r.1,false,15,{p with at_:=r.2.2})else some (r.1,r.2.1==0,r.2.1,{p with at_:=r.2.2})
theorem WD{pf:List aa→Option (List aa×Int)}(hpf:zq pf){s0 s:ab}{B:Nat}{p:PS}{rr:cG}{ids:List (Nat×cG)}(h:re s0 s B p rr ids)(hroom:p.st.length≤64){t:a8}{Q:List AV→ab→Prop}
 (hm:ok (UF pf p t) fun r=>WW s0 B r.2.2.1 r.2.2.2 (Q [vA r.1,.bool r.2.1,.int .i64 r.2.2.1])):FN Go.Proofs.Tryz.prog 75 [.ref B 0,tA t] s Q:=by
 have hr:room=140737488355328:=rfl
 unfold UF at hm
 refine FN.of (af mix) wP rfl (Nat.le_of_ble_eq_true rfl) ?_
 rw[mz,mb]
 unfold tA
 cases h0:(t.Kind==0)with
 |true=>
  rw[h0,cond_true,az]at hm
  simp -implicitDefEqProofs only[go_sem,seval,h0,Bool.true_eq_false,Bool.false_eq_true,false_implies,true_implies,true_and,and_true]
  exact hm.at h
 |false=>
 rw[h0,cond_false]at hm
 cases h2:(t.Kind==2)with
 |true=>
  have h4:(t.Kind==4)=false:=by have:=eq_of_beq h2;rw[this];rfl
  rw[h2,h4,Bool.true_or,cond_true,az]at hm
  simp -implicitDefEqProofs only[go_sem,seval,h0,h2,h4,Bool.true_eq_false,Bool.false_eq_true,false_implies,true_implies,true_and,and_true,Bool.true_or,Bool.or_true,Bool.or_false]
  refine Qu h hroom (hm.mono fun s' hq=>?_)
  simp -implicitDefEqProofs only[go_sem,seval]
  repeat'(first|((with_reducible refine OL ?_ ?_);exact rfl)|((with_reducible refine Zr ?_ ?_);exact rfl)|simp -implicitDefEqProofs only[go_sem,seval])
  exact hq
 |false=>
 cases h4:(t.Kind==4)with
 |true=>
  rw[h2,h4,Bool.or_true,cond_true,az]at hm
  simp -implicitDefEqProofs only[go_sem,seval,h0,h2,h4,Bool.true_eq_false,Bool.false_eq_true,false_implies,true_implies,true_and,and_true,Bool.true_or,Bool.or_true,Bool.or_false]
  refine Qu h hroom (hm.mono fun s' hq=>?_)
  simp -implicitDefEqProofs only[go_sem,seval]
  repeat'(first|((with_reducible refine OL ?_ ?_);exact rfl)|((with_reducible refine Zr ?_ ?_);exact rfl)|simp -implicitDefEqProofs only[go_sem,seval])
  exact hq
 |false=>
 rw[h2,h4,Bool.or_false,cond_false]at hm
 cases h3:(t.Kind==3)with
 |true=>
  have h5:(t.Kind==5)=false:=by have:=eq_of_beq h3;rw[this];rfl
  rw[h3,h5,Bool.true_or,cond_true,dm]at hm
  obtain⟨r,hr1,hm⟩:=hm
  rw[az]at hm
  simp -implicitDefEqProofs only[go_sem,seval,h0,h2,h4,h3,h5,Bool.true_eq_false,Bool.false_eq_true,false_implies,true_implies,true_and,and_true,Bool.true_or,Bool.or_true,Bool.or_false]
  refine XF hpf h hroom ⟨r,hr1,hm.mono fun s' hq=>?_⟩
  unfold vA
  simp -implicitDefEqProofs only[go_sem,seval]
  exact hq
 |false=>
 cases h5:(t.Kind==5)with
 |true=>
  rw[h3,h5,Bool.or_true,cond_true,dm]at hm
  obtain⟨r,hr1,hm⟩:=hm
  rw[az]at hm
  simp -implicitDefEqProofs only[go_sem,seval,h0,h2,h4,h3,h5,Bool.true_eq_false,Bool.false_eq_true,false_implies,true_implies,true_and,and_true,Bool.true_or,Bool.or_true,Bool.or_false]
  refine XF hpf h hroom ⟨r,hr1,hm.mono fun s' hq=>?_⟩
  unfold vA
  simp -implicitDefEqProofs only[go_sem,seval]
  exact hq
 |false=>
 rw[h3,h5,Bool.or_false,cond_false,dm]at hm
 obtain⟨r,hr1,hm⟩:=hm
 simp -implicitDefEqProofs only[go_sem,seval,h0,h2,h4,h3,h5,Bool.true_eq_false,Bool.false_eq_true,false_implies,true_implies,true_and,and_true,Bool.true_or,Bool.or_true,Bool.or_false]
 refine Sv h hroom ⟨r,hr1,fun s' hs'=>?_⟩
 have hB:=hs'.cell
 unfold iq at hB
 unfold vA
 simp -implicitDefEqProofs only[go_sem,seval,hB]
 cases he:(r.2.1==0)with
 |false=>
  rw[he,Bool.false_and,cond_false,az]at hm
  simp -implicitDefEqProofs only[go_sem,seval,hB,he,Bool.true_eq_false,Bool.false_eq_true,false_implies,true_implies,true_and,and_true,Bool.true_or,Bool.or_true,Bool.or_false]
  exact hm.at hs'
 |true=>
  rw[he,Bool.true_and]at hm
  simp -implicitDefEqProofs only[go_sem,seval,hB,he,Bool.true_eq_false,Bool.false_eq_true,false_implies,true_implies,true_and,and_true,Bool.true_or,Bool.or_true,Bool.or_false]
  refine⟨fun hl=>?_,fun hl=>?_⟩
  ·rw[show decide (64≤p.st.length)=true by have:=of_decide_eq_true hl;exact decide_eq_true (by omega),cond_true,az]at hm
   exact hm.at hs'
  ·rw[show decide (64≤p.st.length)=false by have:=of_decide_eq_false hl;exact decide_eq_false (by omega),cond_false,az]at hm
   exact hm.at hs'
end Go.AB
end
