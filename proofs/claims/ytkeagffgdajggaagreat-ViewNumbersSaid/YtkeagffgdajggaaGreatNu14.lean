/- A part of the proof: Pq, Hp, Pr, Pt, Pv, Ps. -/
import Derived.Test.YtkeagffgdajggaaGreatNu13
import Derived.Test.YtkeagffgdajggaaGreatNu11
set_option linter.unusedSimpArgs false
set_option linter.unusedVariables false
section
set_option maxRecDepth 4000
namespace Go.AB
open Go
open Go.Proofs.Tryz (prog)
attribute[-go_sem] cE da bM cD
@[go_sem]theorem alY(g:Bool):(g=true->(2:Int)≠0)=True:=eq_true (fun _=>by decide)
def jk(t_0:bA):Option (Bool):=some ((t_0.Kind==1)&&(t_0.V.Kind==2))
def vg:IC:=
 (af [i1 1 (.dc 8 (.t 0)),c6 2 (.bool false)] [1]
 (af [fa 3 0 1,ld 4 1 3,bn 5 .eql 4 1,mv 6 5,fg 7 6 true 3 1,fg 8 6 true 0 7,lg 9 6 true 1 8,kS 10 6 true .eql 9 2,pf 11 6 10,mv 2 11] [2]
 .ret))
theorem Gy:aE prog 124 12 [⟨2,true,none⟩] vg=true:=by kernel_rfl
theorem Hl{t_0}{s:ab}{Q:List AV->ab->Prop}:ok (jk t_0) (fun r=>Q [.bool r] s)->FN prog 124 [.agg [.int .i64 t_0.Kind,.int .i64 t_0.bW,.int .i64 t_0.To,.int .i64 t_0.V.Kind,.int .i64 t_0.V.N,.str t_0.V.S.b,sF 4 t_0.V.L,.str t_0.S.b]] s Q:=by
 intro h
 refine FO Gy rfl rfl ?_
 revert h
 rw[vg,jk]
 repeat'(first
  |simp -implicitDefEqProofs only[go_sem,seval])
theorem lT{t_0}{s:ab}{r:Bool}(h:jk t_0=some r):FE prog 124 [.agg [.int .i64 t_0.Kind,.int .i64 t_0.bW,.int .i64 t_0.To,.int .i64 t_0.V.Kind,.int .i64 t_0.V.N,.str t_0.V.S.b,sF 4 t_0.V.L,.str t_0.S.b]] s [.bool r] s:=Hl ⟨r,h,rfl,rfl⟩
def ie(e_0:Int):Option (Int):=
 if e_0==6 then
  some e_0
 else
  some 0
def xU:IC:=
 (af [mi 2 0] [0]
 (.seq (af [mv 3 0,bn 4 .eql 3 6] [0,4]
 (.cond (.t 4) (af [mv 5 0,mv 2 5] [2]
 .ret)
 .skip))
 (af [mi 2 0] [2]
 .ret)))
theorem Ja:aE prog 227 6 [⟨2,true,none⟩] xU=true:=by kernel_rfl
theorem JD{e_0}{s:ab}{Q:List AV->ab->Prop}:ok (ie e_0) (fun r=>Q [.int .i64 r] s)->FN prog 227 [.int .i64 e_0] s Q:=by
 intro h
 refine FO Ja rfl rfl ?_
 revert h
 rw[xU,ie]
 repeat'(first
  |simp -implicitDefEqProofs only[go_sem,seval])
theorem yw{e_0}{s:ab}{r:Int}(h:ie e_0=some r):FE prog 227 [.int .i64 e_0] s [.int .i64 r] s:=JD ⟨r,h,rfl,rfl⟩
def sX(w_0:aw):Option (aa×Int):=
 if w_0.b==(aw.mk [116,114,117,101]).b then
  some ((aa.mk 1 1 (aw.mk []) ([]:List aa)),0)
 else
  if w_0.b==(aw.mk [102,97,108,115,101]).b then
   some ((aa.mk 1 0 (aw.mk []) ([]:List aa)),0)
  else
   if w_0.b==(aw.mk [110,117,108,108]).b then
    some ((aa.mk 0 0 (aw.mk []) ([]:List aa)),0)
   else
    some ((aa.mk 0 0 (aw.mk []) ([]:List aa)),11)
def xW:IC:=
 (af [i1 2 (.aq iA),mi 3 0] [0,2]
 (.seq (af [mv 4 0] [2,4]
 (.block 0 (af [i1 6 (.bin .eql (.t 4) (.c (.str [116,114,117,101]))),mv 5 6] [2,4,5]
 (.cond (.t 5) (af [i1 7 (.build iA [(0,1,(.c (.int .i64 1))),(1,1,(.c (.int .i64 1)))]),st 4 2 7,mi 3 0] [2,3]
 .ret)
 (af [i1 9 (.bin .eql (.t 4) (.c (.str [102,97,108,115,101]))),mv 8 9] [2,4,8]
 (.cond (.t 8) (af [i1 10 (.build iA [(0,1,(.c (.int .i64 1)))]),st 4 2 10,mi 3 0] [2,3]
 .ret)
 (af [i1 12 (.bin .eql (.t 4) (.c (.str [110,117,108,108]))),mv 11 12] [2,11]
 (.cond (.t 11) (af [i1 13 (.build iA []),st 4 2 13,mi 3 0] [2,3]
 .ret)
 .skip))))))))
 (af [i1 14 (.build iA []),st 4 2 14,mi 3 11] [2,3]
 .ret)))
theorem Jc:aE prog 183 15 [⟨2,false,some (4,true)⟩,⟨3,true,none⟩] xW=true:=by kernel_rfl
theorem JG{w_0}{s:ab}{Q:List AV->ab->Prop}:ok (sX w_0) (fun r=>Q [.agg [.int .i64 r.1.Kind,.int .i64 r.1.N,.str r.1.S.b,sF 4 r.1.L],.int .i64 r.2] s)->FN prog 183 [.str w_0.b] s Q:=by
 intro h
 refine FO Jc rfl rfl ?_
 revert h
 rw[xW,sX]
 repeat'(first
  |simp -implicitDefEqProofs only[go_sem,seval])
theorem qR{w_0}{s:ab}{r:aa×Int}(h:sX w_0=some r):FE prog 183 [.str w_0.b] s [.agg [.int .i64 r.1.Kind,.int .i64 r.1.N,.str r.1.S.b,sF 4 r.1.L],.int .i64 r.2] s:=JG ⟨r,h,rfl,rfl⟩
structure fw where
 b_:(List UInt8)
 at_:Int
 bz:Bool
 open_:AV
def mF(s_0:fw):Option (bA×Int×fw):=
 aW (dT s_0.b_ s_0.at_ s_0.bz) fun r1=>
 jn (
  if r1.2==0 then
   some (fw.mk s_0.b_ r1.1.To s_0.bz s_0.open_)
  else
   some s_0) fun(o5:fw)=>
 some (r1.1,r1.2,o5)
def oj:IC:=
 (af [i1 2 (.aq BB),mi 3 0] [0,2]
 (.seq (.wq [4] 19 [mv 7 0,nc 8 7,fa 9 0 8,i1 10 (.bf [.sl false 1 0 []] false (.t 9)),mv 11 0,nc 12 11,fa 13 1 12,i1 14 (.bf jV false (.t 13)),mv 15 0,nc 16 15,fa 17 2 16,i1 18 (.bf [.bool false] false (.t 17)),c3 19 127 10 14 18,iV 6 19,ex 20 6 0,ex 21 6 1,i1 4 (.aq BB),st 8 4 20,mv 5 21] [0,2,4,5])
 (.join [(2,false),(4,false),(5,false)] (af [mv 22 5,bn 23 .eql 22 0] [0,2,4,5,23]
 (.cond (.t 23) (.bN none [mv 24 0,fa 25 2 4,ld 26 1 25,nc 27 24,fa 28 1 27,st 1 28 26] [2,4,5])
 .skip))
 (af [lm 29 8 4,mv 30 5,st 8 2 29,mv 3 30] [2,3]
 .ret))))
theorem xA:aE prog 74 31 [⟨2,false,some (8,true)⟩,⟨3,true,none⟩] oj=true:=by kernel_rfl
theorem xE{s_0}{B0:Nat}{s:ab}{Q:List AV->ab->Prop}(hB0:s B0=some (.cells [sF 1 s_0.b_,.int .i64 s_0.at_,.bool s_0.bz,s_0.open_])):ok (mF s_0) (fun r=>Q [.agg [.int .i64 r.1.Kind,.int .i64 r.1.bW,.int .i64 r.1.To,.int .i64 r.1.V.Kind,.int .i64 r.1.V.N,.str r.1.V.S.b,sF 4 r.1.V.L,.str r.1.S.b],.int .i64 r.2.1] (s.set B0 (.cells [sF 1 r.2.2.b_,.int .i64 r.2.2.at_,.bool r.2.2.bz,r.2.2.open_])))->FN prog 74 [.ref B0 0] s Q:=by
 have hS:s=(s.set B0 (.cells [sF 1 s_0.b_,.int .i64 s_0.at_,.bool s_0.bz,s_0.open_])):=by simp only[dN hB0]
 rw[hS]
 intro h
 refine FO xA rfl rfl ?_
 revert h
 rw[oj,mF]
 repeat'(first
  |((with_reducible refine QB ?_ ?_);exact rfl)
  |with_reducible refine b6 (fun _(h:dT s_0.b_ s_0.at_ s_0.bz=some _)=>kN h) (fun _=>rfl) (fun r1=>?_)
  |((with_reducible refine dA (fun(o5:fw)=>⟨[(2,.loc [.int .i64 0,.int .i64 0,.int .i64 0,.int .i64 0,.int .i64 0,.str (aw.mk []).b,.sl true 4 0 [],.str (aw.mk []).b]),(4,.loc [.int .i64 r1.1.Kind,.int .i64 r1.1.bW,.int .i64 r1.1.To,.int .i64 r1.1.V.Kind,.int .i64 r1.1.V.N,.str r1.1.V.S.b,sF 4 r1.1.V.L,.str r1.1.S.b]),(5,.int .i64 r1.2)],[],(s.set B0 (.cells [sF 1 o5.b_,.int .i64 o5.at_,.bool o5.bz,o5.open_]))⟩) (fun J=>?_) ?_);rotate_left;rintro o5)
  |simp -implicitDefEqProofs only[go_sem,seval])
def eZ(s_0:fw)(v_1:aa):Option (aa×Int×fw):=
 aW (dT s_0.b_ s_0.at_ s_0.bz) fun r1=>
 aW (l8 (!(r1.2 !=0)) false (jk r1.1)) fun r2=>
 if(r1.2 !=0)||(!r2)then
  aW (ie r1.2) fun r3=>
  some (v_1,r3,s_0)
 else
  aW (dT s_0.b_ r1.1.To s_0.bz) fun r4=>
  if((r4.2 !=0)||(r4.1.Kind !=6))||(!(r4.1.S.b==(aw.mk [82]).b))then
   aW (ie r4.2) fun r5=>
   some (v_1,r5,s_0)
  else
   if((decide (v_1.N<1))||(decide (v_1.N>4096)))||(r1.1.V.N !=0)then
    some (v_1,26,s_0)
   else
    some ((aa.mk 8 v_1.N (aw.mk []) ([]:List aa)),0,(fw.mk s_0.b_ r4.1.To s_0.bz s_0.open_))
def pF:IC:=
 (af [i1 3 (.dc 4 (.t 1)),i1 4 (.aq iA),mi 5 0] [0,3,4]
 (.seq (.wq [6] 19 [mv 10 0,nc 11 10,fa 12 0 11,i1 13 (.bf [.sl false 1 0 []] false (.t 12)),mv 14 0,nc 15 14,fa 16 1 15,i1 17 (.bf jV false (.t 16)),mv 18 0,nc 19 18,fa 20 2 19,i1 21 (.bf [.bool false] false (.t 20)),c3 22 127 13 17 21,iV 9 22,ex 23 9 0,ex 24 9 1,i1 6 (.aq BB),st 8 6 23,mv 7 24] [0,3,4,6,7])
 (.seq (.seq (.bN (some 5) [mv 25 7,bn 26 .neq 25 0,mv 27 26,dq 28 27 false (.load 8 true (.t 6)),RX 29 27 false 124 28,dq 30 27 false (.un .not (.t 29)),po 31 27 30] [0,3,4,6,7,31])
 (.cond (.t 31) (.seq (.bN (some 3) [lm 32 4 3,mv 33 7,c1 34 227 33,st 4 4 32,mv 5 34] [4,5])
 .ret)
 .skip))
 (.seq (.wq [8] 17 [mv 36 0,nc 37 36,fa 38 0 37,i1 39 (.bf [.sl false 1 0 []] false (.t 38)),fa 40 2 6,ld 41 1 40,mv 42 0,nc 43 42,fa 44 2 43,i1 45 (.bf [.bool false] false (.t 44)),c3 46 127 39 41 45,iV 35 46,ex 47 35 0,ex 48 35 1,i1 8 (.aq BB),st 8 8 47,mv 7 48] [0,3,4,6,7,8])
 (.seq (af [mv 49 7,bn 50 .neq 49 0,mv 51 50,fg 52 51 false 0 8,lg 53 51 false 1 52,kS 54 51 false .neq 53 6,po 55 51 54,mv 56 55,fg 57 56 false 7 8,lg 58 56 false 1 57,dq 59 56 false (.bin .neq (.t 58) (.c (.str [82]))),po 60 56 59] [0,3,4,6,7,8,60]
 (.cond (.t 60) (.seq (.bN (some 3) [lm 61 4 3,mv 62 7,c1 63 227 62,st 4 4 61,mv 5 63] [4,5])
 .ret)
 .skip))
 (.seq (af [fa 64 1 3,ld 65 1 64,bn 66 .lss 65 1,mv 67 66,fg 68 67 false 1 3,lg 69 67 false 1 68,kS 70 67 false .gtr 69 4096,po 71 67 70,mv 72 71,fg 73 72 false 3 6,fg 74 72 false 1 73,lg 75 72 false 1 74,kS 76 72 false .neq 75 0,po 77 72 76] [0,3,4,8,77]
 (.cond (.t 77) (af [lm 78 4 3,st 4 4 78,mi 5 26] [4,5]
 .ret)
 .skip))
 (af [mv 79 0,fa 80 2 8,ld 81 1 80,nc 82 79,fa 83 1 82,st 1 83 81] [3,4]
 (af [fa 84 1 3,ld 85 1 84,i1 86 (.build iA [(0,1,(.c (.int .i64 8))),(1,1,(.t 85))]),st 4 4 86,mi 5 0] [4,5]
 .ret))))))))
theorem zf:aE prog 184 87 [⟨4,false,some (4,true)⟩,⟨5,true,none⟩] pF=true:=by kernel_rfl
theorem zu{s_0 v_1}{B0:Nat}{s:ab}{Q:List AV->ab->Prop}(hB0:s B0=some (.cells [sF 1 s_0.b_,.int .i64 s_0.at_,.bool s_0.bz,s_0.open_])):ok (eZ s_0 v_1) (fun r=>Q [.agg [.int .i64 r.1.Kind,.int .i64 r.1.N,.str r.1.S.b,sF 4 r.1.L],.int .i64 r.2.1] (s.set B0 (.cells [sF 1 r.2.2.b_,.int .i64 r.2.2.at_,.bool r.2.2.bz,r.2.2.open_])))->FN prog 184 [.ref B0 0,.agg [.int .i64 v_1.Kind,.int .i64 v_1.N,.str v_1.S.b,sF 4 v_1.L]] s Q:=by
 have hS:s=(s.set B0 (.cells [sF 1 s_0.b_,.int .i64 s_0.at_,.bool s_0.bz,s_0.open_])):=by simp only[dN hB0]
 rw[hS]
 intro h
 refine FO zf rfl rfl ?_
 revert h
 rw[pF,eZ]
 repeat'(first
  |with_reducible exact cW
  |((with_reducible refine QB ?_ ?_);exact rfl)
  |(with_reducible first|refine bK ?_ ?_|refine de ?_|refine b6 (fun _(h:dT s_0.b_ s_0.at_ s_0.bz=some _)=>kN h) (fun _=>rfl) (fun r1=>?_)|refine fC rfl (fun _(h:jk r1.1=some _)=>lT h) (fun _=>rfl) (fun r2=>?_)|refine b6 (fun _(h:ie r1.2=some _)=>yw h) (fun _=>rfl) (fun r3=>?_)|refine b6 (fun _(h:dT s_0.b_ r1.1.To s_0.bz=some _)=>kN h) (fun _=>rfl) (fun r4=>?_)|refine b6 (fun _(h:ie r4.2=some _)=>yw h) (fun _=>rfl) (fun r5=>?_))
  |simp -implicitDefEqProofs only[go_sem,seval])
structure cO where
 gF:Bool
 l_:(List aa)
end Go.AB
end
section
namespace Go.AB
open Go
def Holds(s0 s:ab)(H:List (Nat×SO)):Prop:=Sub s0 s/\(∀p∈H,s p.1=some p.2/\s0 p.1=none)/\(H.map Prod.fst).Nodup
theorem Holds.perm{s0 s:ab}{H H':List (Nat×SO)}(h:Holds s0 s H)(p:H.Perm H'):Holds s0 s H':=⟨h.1,fun x hx=>h.2.1 x (p.mem_iff.2 hx),(p.map Prod.fst).nodup_iff.1 h.2.2⟩
theorem Holds.nil{s:ab}:Holds s s []:=⟨Sub.refl s,fun p hp=>by simp at hp,by simp⟩
theorem Holds.get{s0 s:ab}{k:Nat}{o:SO}{H:List (Nat×SO)}(h:Holds s0 s ((k,o)::H)):s k=some o:=(h.2.1 _ List.mem_cons_self).1
theorem Holds.mem{s0 s:ab}{k:Nat}{o:SO}{H:List (Nat×SO)}(h:Holds s0 s H)(hm:(k,o)∈H):s k=some o:=(h.2.1 _ hm).1
theorem Holds.tail{s0 s:ab}{p:Nat×SO}{H:List (Nat×SO)}(h:Holds s0 s (p::H)):Holds s0 s H:=⟨h.1,fun x hx=>h.2.1 x (List.mem_cons_of_mem _ hx),(List.nodup_cons.1 h.2.2).2⟩
theorem Holds.set{s0 s:ab}{k:Nat}{o o':SO}{H:List (Nat×SO)}(h:Holds s0 s ((k,o)::H)):Holds s0 (s.set k o') ((k,o')::H):=by
 obtain⟨h1,h2,h3⟩:=h
 have h0:=(h2 _ List.mem_cons_self).2
 refine⟨fun b x hb=>?_,fun p hp=>?_,h3⟩
 ·rw[ai (fun e=>by subst e;rw[h0]at hb;cases hb)];exact h1 b x hb
 ·rcases List.mem_cons.1 hp with rfl|hp
  ·exact⟨bd ..,h0⟩
  ·obtain⟨q1,q2⟩:=h2 p (List.mem_cons_of_mem _ hp)
   refine⟨?_,q2⟩
   rw[ai (fun e=>?_)];exact q1
   have:=(List.nodup_cons.1 h3).1
   exact this (by show k∈H.map Prod.fst;rw[<-e];exact List.mem_map_of_mem hp)
theorem Holds.ahY{s0 s:ab}{H:List (Nat×SO)}(h:Holds s0 s H){k:Nat}(hk:s k=none):k∉H.map Prod.fst:=by
 intro hm
 obtain⟨p,hp,rfl⟩:=List.mem_map.1 hm
 rw[(h.2.1 p hp).1]at hk;cases hk
theorem Holds.alloc{s0 s:ab}{k:Nat}{o:SO}{H:List (Nat×SO)}(h:Holds s0 s H)(hk:s k=none):Holds s0 (s.set k o) ((k,o)::H):=by
 have hn:=h.ahY hk
 obtain⟨h1,h2,h3⟩:=h
 have h0:s0 k=none:=by
  cases e:s0 k with
  |none=>rfl
  |some x=>rw[h1 k x e]at hk;cases hk
 refine⟨h1.set hk,fun p hp=>?_,by rw[List.map_cons];exact List.nodup_cons.2 ⟨hn,h3⟩⟩
 rcases List.mem_cons.1 hp with rfl|hp
 ·exact⟨bd ..,h0⟩
 ·obtain⟨q1,q2⟩:=h2 p hp
  exact⟨by rw[ai (fun e=>by rw[e,hk]at q1;cases q1)];exact q1,q2⟩
theorem Holds.sub{s0 s s':ab}{H:List (Nat×SO)}(h:Holds s0 s H)(hs:Sub s s'):Holds s0 s' H:=⟨fun b o hb=>hs b o (h.1 b o hb),fun p hp=>⟨hs _ _ (h.2.1 p hp).1,(h.2.1 p hp).2⟩,h.2.2⟩
theorem QS{s:ab}{k j:Nat}(h:j≠k):(s.del k) j=s j:=by unfold ab.del;rw[if_neg h]
theorem LN{s:ab}{k:Nat}{o:SO}(h:s k=some o):(s.del k).set k o=s:=by
 funext i
 unfold ab.set ab.del
 by_cases e:i=k
 ·subst e;simp[h]
 ·simp[e]
theorem Holds.del{s0 s:ab}{k:Nat}{o:SO}{H:List (Nat×SO)}(h:Holds s0 s ((k,o)::H)):Holds s0 (s.del k) H/\(s.del k) k=none:=by
 obtain⟨h1,h2,h3⟩:=h
 have h0:=(h2 _ List.mem_cons_self).2
 refine⟨⟨fun b x hb=>?_,fun p hp=>?_,(List.nodup_cons.1 h3).2⟩,by unfold ab.del;simp⟩
 ·rw[QS (fun e=>by subst e;rw[h0]at hb;cases hb)];exact h1 b x hb
 ·obtain⟨q1,q2⟩:=h2 p (List.mem_cons_of_mem _ hp)
  refine⟨?_,q2⟩
  rw[QS (fun e=>?_)];exact q1
  have:=(List.nodup_cons.1 h3).1
  exact this (by show k∈H.map Prod.fst;rw[<-e];exact List.mem_map_of_mem hp)
section
variable{α:Type}[aK α]
def pW(r:cU)(l:List α):List (Nat×SO):=match r with
 |none=>[]
 |some (b,_,sp)=>[(b,.cells (flat l++sp))]
def R1(r:cU)(l:List α):Prop:=match r with
 |none=>l=[]
 |some (_,cap,sp)=>0<cap/\l.length<=cap/\(flat l++sp).length=cap*aK.w α/\views sp=sp
theorem Holds.row{s0 s:ab}{r:cU}{l:List α}{H:List (Nat×SO)}(h:Holds s0 s (pW r l++H))(hf:R1 r l):∃s1,s=gp s1 r l/\gB s1 r l/\Holds s0 s1 H:=by
 cases r with
 |none=>exact⟨s,rfl,hf,h⟩
 |some x=>
  obtain⟨b,cap,sp⟩:=x
  have h':Holds s0 s ((b,.cells (flat l++sp))::H):=h
  obtain⟨h1,h2⟩:=h'.del
  exact⟨s.del b,(LN h'.get).symm,⟨h2,hf⟩,h1⟩
theorem Holds.aca{s0 s1:ab}{r:cU}{l:List α}{H:List (Nat×SO)}(h:Holds s0 s1 H)(ho:gB s1 r l):Holds s0 (gp s1 r l) (pW r l++H)/\R1 r l:=by
 cases r with
 |none=>exact⟨h,ho⟩
 |some x=>
  obtain⟨b,cap,sp⟩:=x
  exact⟨h.alloc ho.1,ho.2⟩
end
end Go.AB
end
section
set_option maxRecDepth 4000
namespace Go.AB
open Go
open Go.Proofs.Tryz (prog)
attribute[-go_sem] Nat.add_zero nr bV
def mf:IC:=
 (af [c6 2 (.bool false)] [0]
 (af [mv 3 0,nc 4 3,fa 5 0 4,i1 6 (.bf [.bool false] false (.t 5)),mv 7 6,dh 8 0 7 true,dq 9 7 true (.nilCheck (.t 8)),fg 10 7 true 1 9,dq 11 7 true (.bf [.sl false 4 0 []] false (.t 10)),dq 12 7 true (.len 0 (.t 11)),kS 13 7 true .rem 12 2,kS 14 7 true .eql 13 0,pf 15 7 14,mv 2 15] [2]
 .ret))
theorem ui:aE prog 181 16 [⟨2,true,none⟩] mf=true:=by kernel_rfl
def pG:IC:=
 (af [c6 2 (.dK)] [0]
 (.seq (af [mv 3 0,nc 4 3,fa 5 3 4,i1 6 (.bf [.sl false 1 0 []] false (.t 5)),le 7 0 6,bn 8 .eql 7 0] [0,8]
 (.cond (.t 8) (af [c6 2 (.dK)] [2]
 .ret)
 .skip))
 (.seq (.bN (some 13) [mv 9 0,nc 10 9,fa 11 3 10,i1 12 (.bf [.sl false 1 0 []] false (.t 11)),mv 13 0,nc 14 13,fa 15 3 14,i1 16 (.bf [.sl false 1 0 []] false (.t 15)),le 17 0 16,bn 18 .sub 17 1,ia 19 [.dK] 12 18,i1 20 (.bf [.dK] false (.t 19)),mv 2 20] [2])
 .ret)))
theorem zg:aE prog 76 21 [⟨2,true,none⟩] pG=true:=by kernel_rfl
def nz:IC:=
 (af [mi 4 0] [0,1]
 (.seq (af [mv 6 0,c1 7 76 6,mv 5 7] [0,1,5]
 (.seq (.bN (some 5) [mv 8 5,i1 9 (.Ov true (.t 8) (.c (.dK))),mv 10 9,dh 11 5 10 true,RX 12 10 true 181 11,pf 13 10 12] [0,1,13])
 (.cond (.t 13) (af [mi 4 11] [4]
 .ret)
 .skip)))
 (.seq (af [mv 14 0,nc 15 14,fa 16 3 15,ld 17 1 16,le 18 0 17,bn 19 .geq 18 64] [0,1,19]
 (.cond (.t 19) (af [mi 4 15] [4]
 .ret)
 .skip))
 (af [mv 20 0,mv 21 0,nc 22 21,fa 23 3 22,ld 24 1 23,mv 25 1,i1 26 (.build [.bool false,.arr 0 0 0 0] [(0,1,(.t 25))]),i1 27 (.oz 2 (.t 26)),i1 28 (.bq 1 1 [.dK] [(0,1,(.t 27))]),i1 29 (.eV 1 8 [.dK] (.t 24) (.t 28)),nc 30 20,fa 31 3 30,st 1 31 29] []
 (af [mi 4 0] [4]
 .ret)))))
theorem vG:aE prog 128 32 [⟨4,true,none⟩] nz=true:=by kernel_rfl
def pE:IC:=
 (af [i1 4 (.aq iA),mi 5 0] [0,1,4]
 (af [mv 9 0,c1 10 76 9,mv 6 10] [0,1,4,6]
 (.seq (.block 0 (af [mv 12 6,i1 13 (.Ov false (.t 12) (.c (.dK))),mv 14 13,dh 15 6 14 false,dq 16 14 false (.nilCheck (.t 15)),fg 17 14 false 0 16,lg 18 14 false 1 17,dh 19 1 14 false,dq 20 14 false (.U4 true (.t 18) (.t 19)),po 21 14 20,mv 22 21,dh 23 1 22 false,dh 24 23 22 false,dh 25 6 24 true,RX 26 24 true 181 25,dq 27 24 true (.un .not (.t 26)),dq 28 22 false (.pick (.t 24) (.t 27) (.c (.bool false))),po 29 22 28,mv 11 29] [0,1,4,6,11]
 (.cond (.t 11) (af [i1 30 (.build iA []),st 4 4 30,mi 5 11] [4,5]
 .ret)
 (af [mv 32 1,no 33 32,mv 31 33] [0,4,6,31]
 (.cond (.t 31) (.seq (.bN (some 14) [mv 34 0,mv 35 0,nc 36 35,fa 37 3 36,ld 38 1 37,mv 39 0,nc 40 39,fa 41 3 40,ld 42 1 41,le 43 0 42,bn 44 .sub 43 1,PV 45 1 38 44,nc 46 34,fa 47 3 46,st 1 47 45] [4,6])
 (af [mv 48 6,nc 49 48,fa 50 1 49,i1 51 (.yq 4 false (.t 50)),i1 52 (.build iA [(0,1,(.c (.int .i64 6))),(3,1,(.t 51))]),st 4 4 52,mi 5 0] [4,5]
 .ret))
 .skip)))))
 (af [mv 54 6,nc 55 54,fa 56 1 55,i1 57 (.yq 4 false (.t 56)),c1 58 182 57,iV 53 58,ex 59 53 0,ex 60 53 1,mv 7 59,mv 8 60] [0,4,7,8]
 (.seq (af [mv 61 8,bn 62 .neq 61 0] [0,4,7,8,62]
 (.cond (.t 62) (af [i1 63 (.build iA []),mv 64 8,st 4 4 63,mv 5 64] [4,5]
 .ret)
 .skip))
 (.seq (.bN (some 14) [mv 65 0,mv 66 0,nc 67 66,fa 68 3 67,ld 69 1 68,mv 70 0,nc 71 70,fa 72 3 71,ld 73 1 72,le 74 0 73,bn 75 .sub 74 1,PV 76 1 69 75,nc 77 65,fa 78 3 77,st 1 78 76] [4,7])
 (af [mv 79 7,i1 80 (.build iA [(0,1,(.c (.int .i64 7))),(3,1,(.t 79))]),st 4 4 80,mi 5 0] [4,5]
 .ret)))))))
theorem ze:aE prog 129 81 [⟨4,false,some (4,true)⟩,⟨5,true,none⟩] pE=true:=by kernel_rfl
def mg:IC:=
 (af [i1 3 (.dc 8 (.t 1)),i1 4 (.aq iA),mi 5 0] [0,3,4]
 (.seq (af [mv 7 0,c1 8 76 7,mv 6 8] [0,3,4,6]
 (af [mv 9 6,i1 10 (.Ov true (.t 9) (.c (.dK))),mv 11 10,dh 12 6 11 true,RX 13 11 true 181 12,pf 14 11 13,mv 15 14,fg 16 15 true 0 3,lg 17 15 true 1 16,kS 18 15 true .neq 17 1,dh 19 18 15 true,fg 20 19 false 3 3,fg 21 19 false 0 20,lg 22 19 false 1 21,kS 23 19 false .neq 22 5,dq 24 15 true (.pick (.t 19) (.c (.bool true)) (.t 23)),pf 25 15 24] [0,3,4,25]
 (.cond (.t 25) (af [i1 26 (.build iA []),st 4 4 26,mi 5 11] [4,5]
 .ret)
 .skip)))
 (.seq (.block 0 (af [fa 28 0 3,ld 29 1 28,bn 30 .eql 29 6,mv 27 30] [0,3,4,27]
 (.cond (.t 27) (af [fa 31 7 3,ld 32 1 31,c1 33 183 32,ex 34 33 0,ex 35 33 1,st 4 4 34,mv 5 35] [4,5]
 .ret)
 (af [lm 37 8 3,c1 38 124 37,mv 36 38] [0,3,4,36]
 (.cond (.t 36) (af [mv 39 0,fa 40 3 3,lm 41 4 40,c2 42 184 39 41,ex 43 42 0,ex 44 42 1,st 4 4 43,mv 5 44] [4,5]
 .ret)
 .skip)))))
 (af [fa 45 3 3,lm 46 4 45,st 4 4 46,mi 5 0] [4,5]
 .ret))))
theorem uj:aE prog 130 47 [⟨4,false,some (4,true)⟩,⟨5,true,none⟩] mg=true:=by kernel_rfl
def oo:IC:=
 (af [i1 3 (.dc 8 (.t 1)),i1 4 (.aq iA),c6 5 (.bool false),mi 6 0] [0,3,4]
 (af [i1 7 (.aq iA)] [0,3,4,7]
 (af [mi 8 0] [0,3,4,7]
 (.seq (af [fa 9 0 3,ld 10 1 9] [0,3,4,7,10]
 (.block 0 (af [bn 28 .eql 10 0,mv 27 28] [0,3,4,7,10,27]
 (.cond (.t 27) (af [lm 29 4 7,st 4 4 29,c6 5 (.bool false),mi 6 10] [4,5,6]
 .ret)
 (.seq (af [bn 31 .eql 10 2,mv 30 31] [0,3,4,7,10,30]
 (.cond (.t 30) .skip
 (.bN none [bn 32 .eql 10 4,mv 30 32] [0,3,4,7,10,30])))
 (.cond (.t 30) (.seq (.HM [4] [(1,0,lm 33 4 7),(0,1,mv 34 0),(0,2,fa 35 0 3),(0,3,ld 36 1 35),(0,4,bn 37 .eql 36 4),(2,5,c2 38 128 34 37),(0,6,st 4 4 33),(0,7,c6 5 (.bool false)),(0,8,mv 6 38)] [4,5,6])
 .ret)
 (.seq (af [bn 40 .eql 10 3,mv 39 40] [0,3,4,7,10,39]
 (.cond (.t 39) .skip
 (.bN none [bn 41 .eql 10 5,mv 39 41] [0,3,4,7,39])))
 (.cond (.t 39) (.bN none [mv 43 0,fa 44 0 3,ld 45 1 44,bn 46 .eql 45 5,c2 47 129 43 46,iV 42 47,ex 48 42 0,ex 49 42 1,st 4 7 48,mv 8 49] [4,7,8])
 (af [mv 12 0,lm 13 8 3,c2 14 130 12 13,iV 11 14,ex 15 11 0,ex 16 11 1,st 4 7 15,mv 8 16] [0,4,7,8]
 (af [mv 17 8,bn 18 .eql 17 0,mv 19 18,dh 20 0 19 true,dq 21 19 true (.nilCheck (.t 20)),fg 22 19 true 3 21,lg 23 19 true 1 22,dq 24 19 true (.len 0 (.t 23)),kS 25 19 true .geq 24 64,pf 26 19 25] [4,7,8,26]
 (.cond (.t 26) (.bN none [mi 8 15] [4,7,8])
 .skip)))))))))))
 (af [lm 50 4 7,mv 51 8,bn 52 .eql 51 0,mv 53 8,st 4 4 50,mv 5 52,mv 6 53] [4,5,6]
 .ret)))))
theorem xB:aE prog 75 54 [⟨4,false,some (4,true)⟩,⟨5,true,none⟩,⟨6,true,none⟩] oo=true:=by kernel_rfl
structure Qy where
 n:Option Nat
def Qy.c(x:Qy):AV:=match x.n with
 |none=>.dK
 |some b=>.ref b 0
instance:aK Qy:=⟨1,fun x=>[x.c],⟨none⟩,by decide,fun _=>rfl,fun x=>by obtain⟨_|b⟩:=x<;>rfl⟩
def refs(ids:List (Nat×cU)):List Qy:=ids.map fun i=>⟨some i.1⟩
def WU(r:cU)(v:cO):SO:=.cells [.bool v.gF,iB r v.l_.length]
def lvH(id:Nat×cU)(v:cO):List (Nat×SO):=(id.1,WU id.2 v)::pW id.2 v.l_
def D8:List (Nat×cU)->List cO->List (Nat×SO)
 |id::ids,v::vs=>lvH id v++D8 ids vs
 |_,_=>[]
def ZI:List (Nat×cU)->List cO->Prop
 |id::ids,v::vs=>R1 id.2 v.l_/\ZI ids vs
 |[],[]=>True
 |_,_=>False
theorem rV:∀{ids:List (Nat×cU)}{vs:List cO},ZI ids vs->ids.length=vs.length
 |[],[],_=>rfl
 |_::ids,_::vs,h=>by rw[List.length_cons,List.length_cons,rV h.2]
 |[],_::_,h=>h.elim
 |_::_,[],h=>h.elim
structure PS where
 b:List UInt8
 at_:Int
 last:Bool
 st:List cO
def jq(p:PS)(rr:cU):List AV:=[.sl false 1 p.b.length (flat p.b),.int .i64 p.at_,.bool p.last,iB rr p.st.length]
def sr(s0 s:ab)(B:Nat)(p:PS)(rr:cU)(ids:List (Nat×cU)):Prop:=ZI ids p.st/\R1 rr (refs ids.reverse)/\Holds s0 s ((B,.cells (jq p rr))::(pW rr (refs ids.reverse)++D8 ids p.st))
theorem se(ids:List (Nat×cU)):(refs ids).length=ids.length:=by unfold refs;simp
theorem sr.cell{s0 s:ab}{B:Nat}{p:PS}{rr:cU}{ids:List (Nat×cU)}(h:sr s0 s B p rr ids):s B=some (.cells (jq p rr)):=h.2.2.get
theorem sr.ref{s0 s:ab}{B:Nat}{p:PS}{rr:cU}{id:Nat×cU}{ids:List (Nat×cU)}(h:sr s0 s B p rr (id::ids)):
 ∃rb cap sp,rr=some (rb,cap,sp)/\s rb=some (.cells (flat (refs (id::ids).reverse)++sp))/\(flat (refs (id::ids).reverse)++sp)[ids.length]? =some (.ref id.1 0):=by
 obtain⟨h1,h2,h3⟩:=h
 have hl:0<(refs (id::ids).reverse).length:=by rw[se];simp
 cases rr with
 |none=>rw[show refs (id::ids).reverse=[] from h2]at hl;simp at hl
 |some x=>
  obtain⟨rb,cap,sp⟩:=x
  refine⟨rb,cap,sp,rfl,h3.mem (by simp[pW]),?_⟩
  have hi:ids.length<(refs (id::ids).reverse).length:=by rw[se];simp
  have:=sC (refs (id::ids).reverse) sp (i:=ids.length) (r:=0) hi (by decide)
  rw[show ids.length*aK.w Qy+0=ids.length by show ids.length*1+0=_;omega]at this
  rw[this]
  have e:(refs (id::ids).reverse)[ids.length]=⟨some id.1⟩:=by
   unfold refs
   simp
  rw[e];rfl
theorem Tu{cs:List AV}{off:Nat}{a:AV}(h:cs[off]? =some a):off+1<=cs.length/\AB.sub cs off 1=[a]:=by
 obtain⟨h1,h2⟩:=List.getElem?_eq_some_iff.1 h
 refine⟨h1,?_⟩
 unfold AB.sub
 rw[List.drop_eq_getElem_cons h1,h2];rfl
theorem Un{cs:List AV}{off b:Nat}(h:cs[off]? =some (.ref b 0)):Pu [.dK] false off (some (.cells cs))=.prt (off+1<=cs.length) (.ref b 0):=by
 show ckP _ (rn false (pad [.dK] (views (AB.sub cs off 1))))=_
 rw[(Tu h).2]
 rfl
theorem Nr{s0 s:ab}{B:Nat}{p:PS}{rr:cU}{ids:List (Nat×cU)}(h:sr s0 s B p rr ids)(cJ:p.st.length<=room){Q:List AV->ab->Prop}(hn:p.st=[]->Q [.dK] s)
 (hc:∀id fL v vs,ids=id::fL->p.st=v::vs->Q [.ref id.1 0] s):FN prog 76 [.ref B 0] s Q:=by
 have hB:=h.cell
 have hlen:=rV h.1
 refine FO zg rfl rfl ?_
 rw[pG]
 unfold jq at hB
 simp -implicitDefEqProofs only[go_sem,seval,hB]
 refine⟨fun he=>hn (List.eq_nil_of_length_eq_zero (by simpa using he)),fun hne=>?_⟩
 have hne:p.st.length≠0:=by simpa using hne
 cases hst:p.st with
 |nil=>rw[hst]at hne;exact absurd rfl hne
 |cons v vs=>
 cases ids with
 |nil=>rw[hst]at hlen;simp at hlen
 |cons id fL=>
 obtain⟨rb,cap,sp,rfl,h1,h2⟩:=h.ref
 have hl:p.st.length=fL.length+1:=by rw[<-hlen];rfl
 rw[<-hst]
 have hr:room=140737488355328:=rfl
 have hw:bj ((p.st.length:Int) -1)=(fL.length:Int):=by rw[aI (by omega) (by omega)];omega
 rw[hw]
 refine⟨by omega,?_⟩
 show qK _ _ _ (Pu _ _ _ (s rb))
 rw[h1,Int.toNat_natCast,Nat.mul_one,Un h2]
 simp -implicitDefEqProofs only[go_sem,seval]
 exact⟨by have:=(Tu h2).1;rwa[List.length_append]at this,hc id fL v vs rfl hst⟩
theorem Iz{s:ab}{B n:Nat}{d:Bool}{r:cU}{Q:List AV->ab->Prop}(hB:s B=some (.cells [.bool d,iB r n]))(hq:Q [.bool (d&&((n:Int).tmod 2==0))] s):FN prog 181 [.ref B 0] s Q:=by
 refine FO ui rfl rfl ?_
 rw[mf]
 simp -implicitDefEqProofs only[go_sem,seval,hB]
 exact hq
def eS:List cO->Bool
 |[]=>false
 |v::_=>v.gF&&((v.l_.length:Int).tmod 2==0)
theorem sr.lv{s0 s:ab}{B:Nat}{p:PS}{rr:cU}{id:Nat×cU}{ids:List (Nat×cU)}{v:cO}{vs:List cO}(h:sr s0 s B p rr (id::ids))(hst:p.st=v::vs):s id.1=some (WU id.2 v):=by
 refine h.2.2.mem ?_
 rw[hst]
 simp[D8,lvH]
theorem sd(id:Nat×cU)(ids:List (Nat×cU)):refs (id::ids).reverse=refs ids.reverse++[⟨some id.1⟩]:=by unfold refs;simp
theorem Kh{E:St}{d:Option Nat}{K:St->Prop}{s0 s:ab}{B b:Nat}{p:PS}{rr:cU}{ids:List (Nat×cU)}{gE:Bool}(h:sr s0 s B p rr ids)(cJ:p.st.length<=64)(hb:s b=none)(hσ:E.s=s.set b (.cells [.bool gE,.arr 0 0 0 0]))
 (hK:∀s1 rr',s1 B=some (.cells (jq p rr))->(∃fL,sr s0 (s1.set B (.cells (jq {p with st:=⟨gE,[]⟩::p.st} rr'))) B {p with st:=⟨gE,[]⟩::p.st} rr' fL)->K ({E with s:=s1}.put d (iB rr' (p.st.length+1)))):
 eN 1 8 [.dK] E d K (iB rr p.st.length) (ur E.s 1 (.sl true 1 1 [.ref b 0])):=by
 obtain⟨h1,h2,h3⟩:=h
 have hlen:=rV h1
 have hr:room=140737488355328:=rfl
 have hl:(refs ids.reverse).length=p.st.length:=by rw[se];simp[hlen]
 have H0:=h3.alloc (o:=.cells [.bool gE,.arr 0 0 0 0]) hb
 have H0':Holds s0 (s.set b (.cells [.bool gE,.arr 0 0 0 0])) (pW rr (refs ids.reverse)++([(b,.cells [.bool gE,.arr 0 0 0 0]),(B,.cells (jq p rr))]++D8 ids p.st)):=H0.perm (List.perm_append_comm_assoc [(b,SO.cells [.bool gE,.arr 0 0 0 0]),(B,SO.cells (jq p rr))] _ _)
 obtain⟨s1,e,ok,H1⟩:=H0'.row h2
 rw[gb,<-hl]
 refine wQ (z:=(⟨none⟩:Qy)) (v:=(⟨some b⟩:Qy)) (hσ.trans e) ok rfl (by rw[hl];omega) fun s' r' hs' ok'=>?_
 rw[hl]
 obtain⟨H2,hf⟩:=(H1.sub hs').aca ok'
 have H3:Holds s0 (gp s' r' (refs ids.reverse++[⟨some b⟩])) ((B,.cells (jq p rr))::(pW r' (refs ids.reverse++[⟨some b⟩])++((b,.cells [.bool gE,.arr 0 0 0 0])::D8 ids p.st))):=by
  refine H2.perm ?_
  refine(List.perm_append_comm_assoc _ [(b,SO.cells [.bool gE,.arr 0 0 0 0]),(B,SO.cells (jq p rr))] _).trans ?_
  refine(List.Perm.swap ..).trans ?_
  refine List.Perm.cons _ ?_
  exact List.perm_append_comm_assoc [(b,SO.cells [.bool gE,.arr 0 0 0 0])] _ _
 refine hK _ r' H3.get ⟨(b,none)::ids,⟨rfl,h1⟩,?_,?_⟩
 ·rw[sd];exact hf
 ·rw[sd]
  exact H3.set
theorem Vl{s0 s:ab}{B:Nat}{p:PS}{rr:cU}{ids:List (Nat×cU)}(h:sr s0 s B p rr ids)(cJ:p.st.length<=64){gE:Bool}{Q:List AV->ab->Prop}(he:eS p.st=true->Q [.int .i64 11] s)
 (hd:eS p.st=false->64<=p.st.length->Q [.int .i64 15] s)
 (hk:eS p.st=false->p.st.length<64->∀s' rr' fL,sr s0 s' B {p with st:=⟨gE,[]⟩::p.st} rr' fL->Q [.int .i64 0] s'):FN prog 128 [.ref B 0,.bool gE] s Q:=by
 have hB:=h.cell
 have hlen:=rV h.1
 have hr:room=140737488355328:=rfl
 have rest:eS p.st=false->∀(Q':Prop),Q'->Q':=fun _ _ x=>x
 refine FO vG rfl rfl ?_
 rw[nz]
 unfold jq at hB
 simp -implicitDefEqProofs only[go_sem,seval]
 refine Nr h (by omega) (fun hst=>?_) (fun id fL v vs Q8 hst=>?_)
 ·simp -implicitDefEqProofs only[go_sem,seval,hB]
  refine⟨[.bool false],rfl,fun h=>(by cases h),?_⟩
  have hw:eS p.st=false:=by rw[hst];rfl
  simp -implicitDefEqProofs only[go_sem,seval,hB,Bool.false_and,Bool.and_false]
  refine⟨fun hx=>he (by first|exact hx|exact absurd hx id),fun hx=>?_⟩
  have hw:eS p.st=false:=by first|exact hw|exact hx
  refine⟨fun hx=>hd hw (by have:=of_decide_eq_true hx;omega),fun hx b hb=>?_⟩
  have hlt:p.st.length<64:=by have:=of_decide_eq_false hx;omega
  refine Kh h cJ hb rfl fun s1 rr' hB1⟨fL,Wr⟩=>?_
  unfold jq at hB1
  simp -implicitDefEqProofs only[go_sem,seval,hB1]
  exact hk hw hlt _ _ _ Wr
 ·simp -implicitDefEqProofs only[go_sem,seval,hB]
  subst Q8
  have hlv:=h.lv hst
  refine⟨[.bool (eS p.st)],rfl,fun _=>⟨_,rfl,Iz hlv (by rw[hst];exact⟨rfl,rfl⟩)⟩,?_⟩
  simp -implicitDefEqProofs only[go_sem,seval,hB,Bool.true_and,Bool.and_true]
  refine⟨fun hx=>he (by first|exact hx|exact absurd hx id),fun hx=>?_⟩
  have hw:eS p.st=false:=by first|exact hw|exact hx
  refine⟨fun hx=>hd hw (by have:=of_decide_eq_true hx;omega),fun hx b hb=>?_⟩
  have hlt:p.st.length<64:=by have:=of_decide_eq_false hx;omega
  refine Kh h cJ hb rfl fun s1 rr' hB1⟨fL,Wr⟩=>?_
  unfold jq at hB1
  simp -implicitDefEqProofs only[go_sem,seval,hB1]
  exact hk hw hlt _ _ _ Wr
theorem agP{E:St}{d:Option Nat}{K:St->Prop}{s0:ab}{R:List (Nat×SO)}{r:cU}{l:List aa}(hσ:Holds s0 E.s (pW r l++R))(hf:R1 r l)
 (hK:∀s2,Holds s0 s2 R->K ({E with s:=s2}.put d (.sl false 4 l.length (flat l)))):DJ 4 false E d K (iB r l.length):=by
 cases r with
 |none=>
  obtain rfl:l=[]:=hf
  exact .inl ⟨rfl,rfl,rfl,hK E.s hσ⟩
 |some x=>
  obtain⟨b,cap,sp⟩:=x
  obtain⟨f1,f2,f3,f4⟩:=hf
  have hE':Holds s0 E.s ((b,.cells (flat l++sp))::R):=hσ
  refine .inr ⟨f1,f2,fun h=>(by cases h),?_⟩
  have hle:0+l.length*4<=(flat l++sp).length:=by rw[f3,Nat.zero_add];exact Nat.mul_le_mul_right _ f2
  have hc:j5 l.length 4 0 (E.s b)=some (l.length,flat l):=by
   rw[hE'.get]
   unfold j5
   simp only[decide_eq_true hle,cond_true]
   have:=gA l sp 4 0 l.length rfl (by omega)
   rw[Nat.zero_mul]at this
   rw[this,List.drop_zero,List.take_length,aC]
  show DJ.frzK 4 false E d K b l.length (j5 l.length 4 0 (E.s b))
  rw[hc]
  exact hK _ hE'.del.1
theorem sr.pop{s0 s:ab}{B:Nat}{p:PS}{rr:cU}{id:Nat×cU}{ids:List (Nat×cU)}{v:cO}{vs:List cO}(h:sr s0 s B p rr (id::ids))(hst:p.st=v::vs):
 ∃rr',P6 rr'=P6 rr/\Nb rr'=Nb rr/\R1 rr' (refs ids.reverse)/\ZI ids vs/\R1 id.2 v.l_/\Holds s0 s ((B,.cells (jq p rr))::(pW rr' (refs ids.reverse)++(lvH id v++D8 ids vs))):=by
 have hr:=h.ref
 obtain⟨rb,cap,sp,rfl,_,_⟩:=hr
 obtain⟨h1,h2,h3⟩:=h
 rw[hst]at h1 h3
 obtain⟨f1,f2,f3,f4⟩:=h2
 have e:flat (refs (id::ids).reverse)++sp=flat (refs ids.reverse)++(.ref id.1 0::sp):=by rw[sd,bT,List.append_assoc];rfl
 refine⟨some (rb,cap,.ref id.1 0::sp),rfl,rfl,⟨f1,?_,?_,?_⟩,h1.2,h1.1,?_⟩
 ·rw[se]at f2⊢;simp at f2⊢;omega
 ·rw[<-e];exact f3
 ·unfold views at f4⊢;rw[List.map_cons,f4];rfl
 ·unfold pW at h3⊢
  simp only[]at h3⊢
  rw[<-e]
  exact h3
theorem S7{s0 s:ab}{X:Nat×SO}{R T:List (Nat×SO)}{id:Nat×cU}{v:cO}(h:Holds s0 s (X::(R++(lvH id v++T)))):Holds s0 s (pW id.2 v.l_++(X::(R++T))):=by
 have p1:(X::(R++(lvH id v++T))).Perm ((id.1,WU id.2 v)::((X::R)++(pW id.2 v.l_++T))):=List.perm_middle (l₁:=X::R)
 have p2:((X::R)++(pW id.2 v.l_++T)).Perm (pW id.2 v.l_++((X::R)++T)):=List.perm_append_comm_assoc ..
 exact(h.perm p1).tail.perm p2
def YC:List AV:=[.int .i64 0,.int .i64 0,.str [],.sl false 4 0 []]
def uO(st:List cO)(gE:Bool):Bool:=match st with
 |[]=>true
 |v::_=>(v.gF !=gE)||(gE&&!eS st)
abbrev zU(pf:List aa->Option (List aa×Int)):Prop:=∀(s:ab)(l:List aa)(r:List aa×Int),pf l=some r->FE prog 182 [.sl false 4 l.length (flat l)] s [.sl false 4 r.1.length (flat r.1),.int .i64 r.2] s
@[go_sem]theorem WZ:mD .dK=.no:=rfl
@[go_sem]theorem U5(o:Nat)(x:IX):gm o x (.gw [])=.no:=rfl
@[go_sem]theorem aj5(E:St)(n:Nat):rd E (.gw []) n=none:=rfl
@[go_sem]theorem ai0(op:UnOp):unV op (.gw [])=.no:=by cases op<;>rfl
@[go_sem]theorem aeV(ne:Bool)(y:AV):Q3 ne (.gw []) y=.no:=rfl
theorem acN{pf:List aa->Option (List aa×Int)}(hpf:zU pf){s0 s:ab}{B:Nat}{p:PS}{rr:cU}{ids:List (Nat×cU)}(h:sr s0 s B p rr ids)(cJ:p.st.length<=64){gE:Bool}{Q:List AV->ab->Prop}
 (h0:uO p.st gE=true->Q [.agg YC,.int .i64 11] s)
 (hA:∀v vs,p.st=v::vs->gE=false->uO p.st gE=false->∀s' rr' fL,sr s0 s' B {p with st:=vs} rr' fL->Q [.agg [.int .i64 6,.int .i64 0,.str [],.sl false 4 v.l_.length (flat v.l_)],.int .i64 0] s')
 (hD:∀v vs,p.st=v::vs->gE=true->uO p.st gE=false->ok (pf v.l_) fun r=>(r.2≠0->∀s',Sub s0 s'->Q [.agg YC,.int .i64 r.2] s')/\
   (r.2=0->∀s' rr' fL,sr s0 s' B {p with st:=vs} rr' fL->Q [.agg [.int .i64 7,.int .i64 0,.str [],.sl false 4 r.1.length (flat r.1)],.int .i64 0] s')):FN prog 129 [.ref B 0,.bool gE] s Q:=by
 have hB:=h.cell
 have hlen:=rV h.1
 have hr:room=140737488355328:=rfl
 refine FO ze rfl rfl ?_
 rw[pE]
 unfold jq at hB
 simp -implicitDefEqProofs only[go_sem,Nat.reduceBEq,Nat.reduceAdd,Nat.reduceMul,Nat.reduceLeDiff,Nat.reduceEqDiff,Nat.reduceBNe,UInt8.reduceToNat,UInt32.reduceToNat]
 refine Nr h (by omega) (fun hst=>?_) (fun id fL v vs Q8 hst=>?_)
 ·have akH:uO p.st gE=true:=by rw[hst];rfl
  simp -implicitDefEqProofs only[go_sem,Nat.reduceBEq,Nat.reduceAdd,Nat.reduceMul,Nat.reduceLeDiff,Nat.reduceEqDiff,Nat.reduceBNe,UInt8.reduceToNat,UInt32.reduceToNat,hB,Bool.true_eq_false,false_implies,true_implies,true_and]
  exact h0 akH
 ·subst Q8
  have hlv:=h.lv hst
  unfold WU at hlv
  have hbd:uO p.st gE=((v.gF !=gE)||(gE&&!eS p.st)):=by rw[hst];rfl
  have htw:eS p.st=(v.gF&&((v.l_.length:Int).tmod 2==0)):=by rw[hst];rfl
  simp -implicitDefEqProofs only[go_sem,Nat.reduceBEq,Nat.reduceAdd,Nat.reduceMul,Nat.reduceLeDiff,Nat.reduceEqDiff,Nat.reduceBNe,UInt8.reduceToNat,UInt32.reduceToNat,hB]
  cases hdv:v.gF<;>cases gE
  all_goals(rw[hdv]at hlv;simp -implicitDefEqProofs only[go_sem,Nat.reduceBEq,Nat.reduceAdd,Nat.reduceMul,Nat.reduceLeDiff,Nat.reduceEqDiff,Nat.reduceBNe,UInt8.reduceToNat,UInt32.reduceToNat,hB,hlv,Bool.true_eq_false,Bool.false_eq_true,false_implies,true_implies,true_and,and_true,beq_self_eq_true,Bool.and_self,Bool.not_true,Bool.not_false,Bool.and_false,Bool.false_and,Bool.and_true,Bool.true_and])
  ·have hbf:uO p.st false=false:=by rw[hbd,hdv];rfl
   obtain⟨rr',e1,e2,f1,f2,f3,H⟩:=h.pop hst
   have gZ:p.st.length<=Nb rr:=by
    obtain⟨rb,cap,sp,rfl,_,_⟩:=h.ref
    have:=h.2.1.2.1
    rw[se,List.length_reverse,hlen]at this
    exact this
   have hn:p.st.length=vs.length+1:=by rw[hst];rfl
   have hw:bj ((p.st.length:Int) -1)=(vs.length:Int):=by rw[aI (by omega) (by omega)];omega
   rw[hw]
   refine⟨⟨by omega,by omega,by omega⟩,?_⟩
   have H':=H.set (o':=.cells (jq {p with st:=vs} rr'))
   have es:jq {p with st:=vs} rr'=[.sl false 1 p.b.length (flat p.b),.int .i64 p.at_,.bool p.last,.arr (P6 rr) 0 (vs.length:Int).toNat (Nb rr)]:=by
    unfold jq iB
    rw[e1,e2];rfl
   rw[es]at H'
   have hl2:=H'.mem (k:=id.1) (o:=WU id.2 v) (by simp[lvH])
   rw[hl2]
   unfold WU
   simp -implicitDefEqProofs only[go_sem,Nat.reduceBEq,Nat.reduceAdd,Nat.reduceMul,Nat.reduceLeDiff,Nat.reduceEqDiff,Nat.reduceBNe,UInt8.reduceToNat,UInt32.reduceToNat]
   refine agP (S7 H') f3 fun s2 H2=>?_
   simp -implicitDefEqProofs only[go_sem,Nat.reduceBEq,Nat.reduceAdd,Nat.reduceMul,Nat.reduceLeDiff,Nat.reduceEqDiff,Nat.reduceBNe,UInt8.reduceToNat,UInt32.reduceToNat]
   exact hA v vs hst rfl hbf s2 rr' fL ⟨f2,f1,by rw[es];exact H2⟩
  ·exact h0 (by rw[hbd,hdv];rfl)
  ·exact h0 (by rw[hbd,hdv];rfl)
  ·refine Iz hlv ?_
   simp -implicitDefEqProofs only[go_sem,Nat.reduceBEq,Nat.reduceAdd,Nat.reduceMul,Nat.reduceLeDiff,Nat.reduceEqDiff,Nat.reduceBNe,UInt8.reduceToNat,UInt32.reduceToNat,hB,hlv,Bool.true_eq_false,Bool.false_eq_true,false_implies,true_implies,true_and,and_true,beq_self_eq_true,Bool.and_self,Bool.not_true,Bool.not_false,Bool.and_false,Bool.false_and,Bool.and_true,Bool.true_and]
   have aho:eS p.st=((v.l_.length:Int).tmod 2==0):=by rw[htw,hdv];rfl
   refine⟨fun hx=>h0 (by rw[hbd,hdv,aho];simpa using hx),fun hx=>?_⟩
   have hbf:uO p.st true=false:=by rw[hbd,hdv,aho];simpa using hx
   obtain⟨rr',e1,e2,f1,f2,f3,H⟩:=h.pop hst
   refine agP (S7 H) f3 fun s2 H2=>?_
   have hB2:=H2.get
   unfold jq at hB2
   obtain⟨r,hr1,hr2,hr3⟩:=hD v vs hst rfl hbf
   simp -implicitDefEqProofs only[go_sem,Nat.reduceBEq,Nat.reduceAdd,Nat.reduceMul,Nat.reduceLeDiff,Nat.reduceEqDiff,Nat.reduceBNe,UInt8.reduceToNat,UInt32.reduceToNat]
   refine FE.app (hpf s2 v.l_ r hr1) ⟨rfl,?_⟩
   simp -implicitDefEqProofs only[go_sem,Nat.reduceBEq,Nat.reduceAdd,Nat.reduceMul,Nat.reduceLeDiff,Nat.reduceEqDiff,Nat.reduceBNe,UInt8.reduceToNat,UInt32.reduceToNat,hB2]
   have gZ:p.st.length<=Nb rr:=by
    obtain⟨rb,cap,sp,rfl,_,_⟩:=h.ref
    have:=h.2.1.2.1
    rw[se,List.length_reverse,hlen]at this
    exact this
   have hn:p.st.length=vs.length+1:=by rw[hst];rfl
   have hw:bj ((p.st.length:Int) -1)=(vs.length:Int):=by rw[aI (by omega) (by omega)];omega
   rw[hw]
   have es:jq {p with st:=vs} rr'=[.sl false 1 p.b.length (flat p.b),.int .i64 p.at_,.bool p.last,.arr (P6 rr) 0 (vs.length:Int).toNat (Nb rr)]:=by
    unfold jq iB
    rw[e1,e2];rfl
   refine⟨fun hx=>hr2 (by simpa using hx) s2 H2.1,fun hx=>⟨⟨by omega,by omega,by omega⟩,?_⟩⟩
   have H3:=H2.set (o':=.cells (jq {p with st:=vs} rr'))
   rw[es]at H3
   exact hr3 (by simpa using hx) _ rr' fL ⟨f2,f1,by rw[es];exact H3⟩
end Go.AB
end
section
set_option maxRecDepth 4000
namespace Go.AB
open Go
open Go.Proofs.Tryz (prog)
attribute[-go_sem] Nat.add_zero nr bV
theorem aaq(b:List UInt8)(a:Int)(last:Bool)(o:AV)(v:aa){r:aa×Int×fw}(h:eZ ⟨b,a,last,.dK⟩ v=some r):eZ ⟨b,a,last,o⟩ v=some (r.1,r.2.1,⟨b,r.2.2.at_,last,o⟩):=by
 unfold eZ at h⊢
 simp only[]at h⊢
 cases h1:dT b a last with
 |none=>rw[h1]at h;cases h
 |some r1=>
  rw[h1]at h
  simp only[aW]at h⊢
  cases h2:l8 (!(r1.2 !=0)) false (jk r1.1)with
  |none=>rw[h2]at h;cases h
  |some r2=>
   rw[h2]at h
   simp only[]at h⊢
   cases h3:((r1.2 !=0)||(!r2))with
   |true=>
    simp only[h3,if_true]at h⊢
    cases h4:ie r1.2 with
    |none=>rw[h4]at h;cases h
    |some r3=>rw[h4]at h;cases h;rfl
   |false=>
    simp only[h3,Bool.false_eq_true,if_false]at h⊢
    cases h4:dT b r1.1.To last with
    |none=>rw[h4]at h;cases h
    |some r4=>
     rw[h4]at h
     simp only[]at h⊢
     cases h5:(((r4.2 !=0)||(r4.1.Kind !=6))||(!(r4.1.S.b==(aw.mk [82]).b)))with
     |true=>
      first
      |(simp only[h5,if_true]at h;cases h;done)
      |(simp only[h5,if_true]at h⊢
        cases h6:ie r4.2 with
        |none=>rw[h6]at h;cases h
        |some r5=>rw[h6]at h;cases h;rfl)
     |false=>
      simp only[h5,Bool.false_eq_true,if_false]at h⊢
      cases h6:(((decide (v.N<1))||(decide (v.N>4096)))||(r1.1.V.N !=0))with
      |true=>first|(simp only[h6,if_true]at h;cases h;done)|(simp only[h6,if_true]at h⊢;cases h;rfl)
      |false=>first|(simp only[h6,Bool.false_eq_true,if_false]at h;cases h;done)|(simp only[h6,Bool.false_eq_true,if_false]at h⊢;cases h;rfl)
def zV:aa:=⟨0,0,⟨[]⟩,[]⟩
def vA(v:aa):AV:=.agg [.int .i64 v.Kind,.int .i64 v.N,.str v.S.b,.sl false 4 v.L.length (flat v.L)]
def tA(t:bA):AV:=.agg [.int .i64 t.Kind,.int .i64 t.bW,.int .i64 t.To,.int .i64 t.V.Kind,.int .i64 t.V.N,.str t.V.S.b,.sl false 4 t.V.L.length (flat t.V.L),.str t.S.b]
def Nk(p:PS)(t:bA):Option (aa×Int×Int):=
 if eS p.st&&(t.Kind !=1||t.V.Kind !=5)then some (zV,11,p.at_)
 else if t.Kind==6 then aW (sX t.S) fun r=>some (r.1,r.2,p.at_)
 else aW (jk t) fun w=>if w then aW (eZ ⟨p.b,p.at_,p.last,.dK⟩ t.V) fun r=>some (r.1,r.2.1,r.2.2.at_)else some (t.V,0,p.at_)
theorem sr.place{s0 s:ab}{B:Nat}{p:PS}{rr:cU}{ids:List (Nat×cU)}(h:sr s0 s B p rr ids)(a:Int):sr s0 (s.set B (.cells (jq {p with at_:=a} rr))) B {p with at_:=a} rr ids:=⟨h.1,h.2.1,h.2.2.set⟩
theorem RY{s0 s:ab}{B:Nat}{p:PS}{rr:cU}{ids:List (Nat×cU)}(h:sr s0 s B p rr ids){v:aa}{r:aa×Int×fw}(hr:eZ ⟨p.b,p.at_,p.last,.dK⟩ v=some r){Q:List AV->ab->Prop}
 (hq:∀s',sr s0 s' B {p with at_:=r.2.2.at_} rr ids->Q [vA r.1,.int .i64 r.2.1] s'):FN prog 184 [.ref B 0,vA v] s Q:=by
 refine zu (s_0:=⟨p.b,p.at_,p.last,iB rr p.st.length⟩) h.cell ⟨_,aaq _ _ _ (iB rr p.st.length) _ hr,?_⟩
 exact hq _ (h.place _)
theorem UQ{s0 s:ab}{B:Nat}{p:PS}{rr:cU}{ids:List (Nat×cU)}(h:sr s0 s B p rr ids)(cJ:p.st.length<=64){t:bA}{Q:List AV->ab->Prop}
 (hm:ok (Nk p t) fun r=>∀s',sr s0 s' B {p with at_:=r.2.2} rr ids->Q [vA r.1,.int .i64 r.2.1] s'):FN prog 130 [.ref B 0,tA t] s Q:=by
 have hB:=h.cell
 have hlen:=rV h.1
 have hr:room=140737488355328:=rfl
 unfold Nk at hm
 simp only[Hc,dF,aA]at hm
 obtain⟨m1,m2⟩:=hm
 refine FO uj rfl rfl ?_
 rw[mg]
 unfold jq at hB
 unfold tA
 simp -implicitDefEqProofs only[go_sem,seval]
 refine Nr h (by omega) (fun hst=>?_) (fun id fL v vs Q8 hst=>?_)
 ·have htw:eS p.st=false:=by rw[hst];rfl
  rw[htw]at m1 m2
  simp -implicitDefEqProofs only[go_sem,seval,hB,Bool.true_eq_false,Bool.false_eq_true,false_implies,true_implies,true_and,and_true]
  refine⟨fun hk=>?_,fun hk=>?_⟩
  ·obtain⟨r,hr1,hr2⟩:=(m2 rfl).1 hk
   refine FE.app (qR hr1) ?_
   simp -implicitDefEqProofs only[go_sem,seval]
   exact hr2 s h
  ·obtain⟨w,hw1,hw2⟩:=(m2 rfl).2 hk
   refine FE.app (lT hw1) ?_
   simp -implicitDefEqProofs only[go_sem,seval]
   refine⟨fun hw=>?_,fun hw=>?_⟩
   ·obtain⟨r,hr1,hr2⟩:=hw2.1 hw
    refine RY h hr1 fun s' hs'=>?_
    unfold vA
    simp -implicitDefEqProofs only[go_sem,seval]
    exact hr2 s' hs'
   ·exact hw2.2 hw s h
 ·subst Q8
  have hlv:=h.lv hst
  simp -implicitDefEqProofs only[go_sem,seval,hB]
  refine⟨fun _=>Iz hlv ?_,fun hx=>by cases hx⟩
  have htw:(v.gF&&((v.l_.length:Int).tmod 2==0))=eS p.st:=by rw[hst];rfl
  rw[htw]
  cases hw:eS p.st<;>rw[hw]at m1 m2
  all_goals simp -implicitDefEqProofs only[go_sem,seval,hB,Bool.true_eq_false,Bool.false_eq_true,false_implies,true_implies,true_and,and_true]
  ·refine⟨fun hk=>?_,fun hk=>?_⟩
   ·obtain⟨r,hr1,hr2⟩:=(m2 rfl).1 hk
    refine FE.app (qR hr1) ?_
    simp -implicitDefEqProofs only[go_sem,seval]
    exact hr2 s h
   ·obtain⟨w,hw1,hw2⟩:=(m2 rfl).2 hk
    refine FE.app (lT hw1) ?_
    simp -implicitDefEqProofs only[go_sem,seval]
    refine⟨fun hw=>?_,fun hw=>?_⟩
    ·obtain⟨r,hr1,hr2⟩:=hw2.1 hw
     refine RY h hr1 fun s' hs'=>?_
     unfold vA
     simp -implicitDefEqProofs only[go_sem,seval]
     exact hr2 s' hs'
    ·exact hw2.2 hw s h
  ·refine⟨fun hx=>m1 hx s h,fun hx=>?_⟩
   refine⟨fun hk=>?_,fun hk=>?_⟩
   ·obtain⟨r,hr1,hr2⟩:=(m2 hx).1 hk
    refine FE.app (qR hr1) ?_
    simp -implicitDefEqProofs only[go_sem,seval]
    exact hr2 s h
   ·obtain⟨w,hw1,hw2⟩:=(m2 hx).2 hk
    refine FE.app (lT hw1) ?_
    simp -implicitDefEqProofs only[go_sem,seval]
    refine⟨fun hw=>?_,fun hw=>?_⟩
    ·obtain⟨r,hr1,hr2⟩:=hw2.1 hw
     refine RY h hr1 fun s' hs'=>?_
     unfold vA
     simp -implicitDefEqProofs only[go_sem,seval]
     exact hr2 s' hs'
    ·exact hw2.2 hw s h
def acM(pf:List aa->Option (List aa×Int))(p:PS)(gE:Bool):Option (aa×Int×PS):=
 bif uO p.st gE then some (zV,11,p)else
 match p.st with
 |[]=>none
 |v::vs=>bif gE then aW (pf v.l_) fun r=>bif r.2 !=0 then some (zV,r.2,p)else some (⟨7,0,⟨[]⟩,r.1⟩,0,{p with st:=vs})
  else some (⟨6,0,⟨[]⟩,v.l_⟩,0,{p with st:=vs})
def BG(p:PS)(gE:Bool):Int×PS:=bif eS p.st then(11,p)else bif decide (64<=p.st.length)then(15,p)else(0,{p with st:=⟨gE,[]⟩::p.st})
def StQ(s0:ab)(B:Nat)(e:Int)(p:PS)(K:ab->Prop):Prop:=(e≠0->∀s',Sub s0 s'->K s')/\(e=0->∀s' rr' fL,sr s0 s' B p rr' fL->K s')
theorem StQ.at{s0 s:ab}{B:Nat}{e:Int}{p:PS}{K:ab->Prop}{rr:cU}{ids:List (Nat×cU)}(q:StQ s0 B e p K)(h:sr s0 s B p rr ids):K s:=by
 by_cases he:e=0
 ·exact q.2 he _ _ _ h
 ·exact q.1 he _ h.2.2.1
theorem StQ.mono{s0:ab}{B:Nat}{e:Int}{p:PS}{K K':ab->Prop}(q:StQ s0 B e p K)(h:∀s',K s'->K' s'):StQ s0 B e p K':=⟨fun he s' hs=>h _ (q.1 he s' hs),fun he s' rr' fL hs=>h _ (q.2 he s' rr' fL hs)⟩
theorem abj{pf:List aa->Option (List aa×Int)}(hpf:zU pf){s0 s:ab}{B:Nat}{p:PS}{rr:cU}{ids:List (Nat×cU)}(h:sr s0 s B p rr ids)(cJ:p.st.length<=64){gE:Bool}{Q:List AV->ab->Prop}
 (hm:ok (acM pf p gE) fun r=>StQ s0 B r.2.1 r.2.2 (Q [vA r.1,.int .i64 r.2.1])):FN prog 129 [.ref B 0,.bool gE] s Q:=by
 unfold acM at hm
 refine acN hpf h cJ (fun hb=>?_) (fun v vs hst hd hb s' rr' fL hs'=>?_) (fun v vs hst hd hb=>?_)
 ·rw[hb,cond_true,aA]at hm
  exact hm.at h
 ·rw[hb,cond_false,hst]at hm
  subst hd
  simp only[cond_false,aA]at hm
  exact hm.at hs'
 ·rw[hb,cond_false,hst]at hm
  subst hd
  simp only[cond_true,dF]at hm
  obtain⟨r,hr,hm⟩:=hm
  refine⟨r,hr,fun he s' hs'=>?_,fun he s' rr' fL hs'=>?_⟩
  ·rw[show(r.2 !=0)=true by simpa using he,cond_true,aA]at hm
   exact hm.1 he s' hs'
  ·rw[show(r.2 !=0)=false by simpa using he,cond_false,aA]at hm
   exact hm.2 rfl s' rr' fL hs'
theorem Ss{s0 s:ab}{B:Nat}{p:PS}{rr:cU}{ids:List (Nat×cU)}(h:sr s0 s B p rr ids)(cJ:p.st.length<=64){gE:Bool}{Q:List AV->ab->Prop}
 (hm:StQ s0 B (BG p gE).1 (BG p gE).2 (Q [.int .i64 (BG p gE).1])):FN prog 128 [.ref B 0,.bool gE] s Q:=by
 unfold BG at hm
 refine Vl h cJ (fun hw=>?_) (fun hw hl=>?_) (fun hw hl s' rr' fL hs'=>?_)
 ·rw[hw,cond_true]at hm
  exact hm.at h
 ·rw[hw,cond_false,decide_eq_true hl,cond_true]at hm
  exact hm.at h
 ·rw[hw,cond_false,decide_eq_false (by omega),cond_false]at hm
  exact hm.at hs'
def Yh(pf:List aa->Option (List aa×Int))(p:PS)(t:bA):Option (aa×Bool×Int×PS):=
 bif t.Kind==0 then some (zV,false,10,p)
 else bif t.Kind==2||t.Kind==4 then some (zV,false,(BG p (t.Kind==4)).1,(BG p (t.Kind==4)).2)
 else bif t.Kind==3||t.Kind==5 then aW (acM pf p (t.Kind==5)) fun r=>some (r.1,r.2.1==0,r.2.1,r.2.2)
 else aW (Nk p t) fun r=>bif r.2.1==0&&decide (64<=p.st.length)then some (r.1,false,15,{p with at_:=r.2.2})else some (r.1,r.2.1==0,r.2.1,{p with at_:=r.2.2})
theorem aaB{pf:List aa->Option (List aa×Int)}(hpf:zU pf){s0 s:ab}{B:Nat}{p:PS}{rr:cU}{ids:List (Nat×cU)}(h:sr s0 s B p rr ids)(cJ:p.st.length<=64){t:bA}{Q:List AV->ab->Prop}
 (hm:ok (Yh pf p t) fun r=>StQ s0 B r.2.2.1 r.2.2.2 (Q [vA r.1,.bool r.2.1,.int .i64 r.2.2.1])):FN prog 75 [.ref B 0,tA t] s Q:=by
 have hr:room=140737488355328:=rfl
 unfold Yh at hm
 refine FO xB rfl rfl ?_
 rw[oo]
 unfold tA
 cases h0:(t.Kind==0)with
 |true=>
  rw[h0,cond_true,aA]at hm
  simp -implicitDefEqProofs only[go_sem,seval,h0,Bool.true_eq_false,Bool.false_eq_true,false_implies,true_implies,true_and,and_true]
  exact hm.at h
 |false=>
 rw[h0,cond_false]at hm
 cases h2:(t.Kind==2)with
 |true=>
  have h4:(t.Kind==4)=false:=by have:=eq_of_beq h2;rw[this];rfl
  rw[h2,h4,Bool.true_or,cond_true,aA]at hm
  simp -implicitDefEqProofs only[go_sem,seval,h0,h2,h4,Bool.true_eq_false,Bool.false_eq_true,false_implies,true_implies,true_and,and_true,Bool.true_or,Bool.or_true,Bool.or_false]
  refine Ss h cJ (hm.mono fun s' hq=>?_)
  simp -implicitDefEqProofs only[go_sem,seval]
  repeat'(first|((with_reducible refine QB ?_ ?_);exact rfl)|((with_reducible refine adA ?_ ?_);exact rfl)|simp -implicitDefEqProofs only[go_sem,seval])
  exact hq
 |false=>
 cases h4:(t.Kind==4)with
 |true=>
  rw[h2,h4,Bool.or_true,cond_true,aA]at hm
  simp -implicitDefEqProofs only[go_sem,seval,h0,h2,h4,Bool.true_eq_false,Bool.false_eq_true,false_implies,true_implies,true_and,and_true,Bool.true_or,Bool.or_true,Bool.or_false]
  refine Ss h cJ (hm.mono fun s' hq=>?_)
  simp -implicitDefEqProofs only[go_sem,seval]
  repeat'(first|((with_reducible refine QB ?_ ?_);exact rfl)|((with_reducible refine adA ?_ ?_);exact rfl)|simp -implicitDefEqProofs only[go_sem,seval])
  exact hq
 |false=>
 rw[h2,h4,Bool.or_false,cond_false]at hm
 cases h3:(t.Kind==3)with
 |true=>
  have h5:(t.Kind==5)=false:=by have:=eq_of_beq h3;rw[this];rfl
  rw[h3,h5,Bool.true_or,cond_true,dF]at hm
  obtain⟨r,hr1,hm⟩:=hm
  rw[aA]at hm
  simp -implicitDefEqProofs only[go_sem,seval,h0,h2,h4,h3,h5,Bool.true_eq_false,Bool.false_eq_true,false_implies,true_implies,true_and,and_true,Bool.true_or,Bool.or_true,Bool.or_false]
  refine abj hpf h cJ ⟨r,hr1,hm.mono fun s' hq=>?_⟩
  unfold vA
  simp -implicitDefEqProofs only[go_sem,seval]
  exact hq
 |false=>
 cases h5:(t.Kind==5)with
 |true=>
  rw[h3,h5,Bool.or_true,cond_true,dF]at hm
  obtain⟨r,hr1,hm⟩:=hm
  rw[aA]at hm
  simp -implicitDefEqProofs only[go_sem,seval,h0,h2,h4,h3,h5,Bool.true_eq_false,Bool.false_eq_true,false_implies,true_implies,true_and,and_true,Bool.true_or,Bool.or_true,Bool.or_false]
  refine abj hpf h cJ ⟨r,hr1,hm.mono fun s' hq=>?_⟩
  unfold vA
  simp -implicitDefEqProofs only[go_sem,seval]
  exact hq
 |false=>
 rw[h3,h5,Bool.or_false,cond_false,dF]at hm
 obtain⟨r,hr1,hm⟩:=hm
 simp -implicitDefEqProofs only[go_sem,seval,h0,h2,h4,h3,h5,Bool.true_eq_false,Bool.false_eq_true,false_implies,true_implies,true_and,and_true,Bool.true_or,Bool.or_true,Bool.or_false]
 refine UQ h cJ ⟨r,hr1,fun s' hs'=>?_⟩
 have hB:=hs'.cell
 unfold jq at hB
 unfold vA
 simp -implicitDefEqProofs only[go_sem,seval,hB]
 cases he:(r.2.1==0)with
 |false=>
  rw[he,Bool.false_and,cond_false,aA]at hm
  simp -implicitDefEqProofs only[go_sem,seval,hB,he,Bool.true_eq_false,Bool.false_eq_true,false_implies,true_implies,true_and,and_true,Bool.true_or,Bool.or_true,Bool.or_false]
  exact hm.at hs'
 |true=>
  rw[he,Bool.true_and]at hm
  simp -implicitDefEqProofs only[go_sem,seval,hB,he,Bool.true_eq_false,Bool.false_eq_true,false_implies,true_implies,true_and,and_true,Bool.true_or,Bool.or_true,Bool.or_false]
  refine⟨fun hl=>?_,fun hl=>?_⟩
  ·rw[show decide (64<=p.st.length)=true by have:=of_decide_eq_true hl;exact decide_eq_true (by omega),cond_true,aA]at hm
   exact hm.at hs'
  ·rw[show decide (64<=p.st.length)=false by have:=of_decide_eq_false hl;exact decide_eq_false (by omega),cond_false,aA]at hm
   exact hm.at hs'
end Go.AB
end
section
set_option maxRecDepth 4000
namespace Go.AB
open Go
open Go.Proofs.Tryz (prog)
attribute[-go_sem] Nat.add_zero nr bV cE da bM cD
def vd:IC:=
 (af [i1 6 (.aq iA),mi 7 0,mi 8 0] [0,1,2,6]
 (.CI 0 [(6,false),(9,false)] (.bN none [mv 15 0,mv 16 1,mv 17 2,i1 18 (.build [.sl true 1 0 [],.int .i64 0,.bool false,.arr 0 0 0 0] [(0,1,(.t 15)),(1,1,(.t 16)),(2,1,(.t 17))]),i1 19 (.oz 4 (.t 18)),mv 9 19] [6,9])
 .skip
 .skip
 (af [mv 21 9,c1 22 74 21,iV 20 22,ex 23 20 0,ex 24 20 1,i1 10 (.aq BB),st 8 10 23,mv 11 24] [6,9,10,11]
 (.seq (af [mv 25 11,bn 26 .neq 25 0] [6,9,10,11,26]
 (.cond (.t 26) (af [i1 27 (.build iA []),mv 28 11,st 4 6 27,mi 7 0,mv 8 28] [6,7,8]
 .ret)
 .skip))
 (af [mv 30 9,lm 31 8 10,c2 32 75 30 31,iV 29 32,ex 33 29 0,ex 34 29 1,ex 35 29 2,i1 12 (.aq iA),st 4 12 33,mv 13 34,mv 11 35] [6,9,11,12,13]
 (.seq (af [mv 36 11,bn 37 .neq 36 0] [6,9,11,12,13,37]
 (.cond (.t 37) (af [i1 38 (.build iA []),mv 39 11,st 4 6 38,mi 7 0,mv 8 39] [6,7,8]
 .ret)
 .skip))
 (.seq (af [mv 40 13,no 41 40] [6,9,12,41]
 (.cond (.t 41) (.goto 0)
 .skip))
 (.seq (af [mv 42 9,c1 43 76 42,mv 14 43] [6,9,12,14]
 (af [mv 44 14,i1 45 (.Ov true (.t 44) (.c (.dK)))] [6,9,12,14,45]
 (.cond (.t 45) (.seq (.UH [[false,false,false,false,false,false,false,false,false,false,false,false,false],[true,false,false,false,false,false,false,false,false,false,false,false,false],[false,true,false,false,false,false,false,false,false,false,false,false,false],[false,false,true,false,false,false,false,false,false,false,false,false,false],[false,false,false,false,false,false,false,false,false,false,false,false,false],[false,false,false,true,false,false,false,false,false,false,false,false,false],[false,false,false,false,false,false,false,false,false,false,false,false,false],[true,true,true,true,true,true,true,false,false,false,false,false,false],[true,true,true,true,true,true,true,true,false,false,false,false,false],[true,true,true,true,true,true,true,true,true,false,false,false,false],[true,true,true,true,true,true,true,true,false,false,false,false,false],[true,true,true,true,true,true,true,true,false,false,true,false,false],[true,true,true,true,true,true,true,true,false,false,false,true,false]] [mv 46 14,nc 47 46,fa 48 1 47,ld 49 1 48,lm 50 4 12,le 51 0 49,i1 52 (.bq 4 1 qT [(0,4,(.c (.agg iA)))]),i1 53 (.eV 4 56 qT (.t 49) (.t 52)),ia 54 qT 53 51,st 4 54 50,nc 55 46,fa 56 1 55,st 1 56 53] [6,9])
 (.goto 0))
 .skip)))
 (.seq (.wq [6] 8 [lm 57 4 12,mv 58 9,nc 59 58,fa 60 1 59,ld 61 1 60,st 4 6 57,mv 7 61,mi 8 0] [6,7,8])
 .ret)))))))))
theorem Gw:aE prog 36 62 [⟨6,false,some (4,true)⟩,⟨7,true,none⟩,⟨8,true,none⟩] vd=true:=by kernel_rfl
theorem O7{P:Program}{S O:Type}{body:S->Option (S⊕O)}{s0:S}{kf:O->Prop}{live:List (Nat×Bool)}{l:Nat}{r:IC}{Q:Exit->St->Prop}{E:St}(R:S->St->Prop)
 (h0:R s0 E)
 (hb:∀(J:St->Prop)(s:S)(U:St),R s U->ok (body s) (lA (fun t=>∀U',R t U'->J U') kf)->gO P r (Uh l live J Q) U):ok (iter body s0) kf->jlp P l live r Q E:=by
 intro h
 have I1:∀U,(∃m s,R s U/\ok (cX body m s) kf)->∃m,(∃s,R s U/\ok (cX body m s) kf)/\∀k,k<m->¬∃s,R s U/\ok (cX body k s) kf:=by
  rintro U ⟨m,s,h⟩
  induction m using Nat.strongRecOn generalizing s with
  |_ m ih=>
   by_cases hk:∃k,k<m/\∃s,R s U/\ok (cX body k s) kf
   ·obtain⟨k,hk,s',h'⟩:=hk
    exact ih k hk s' h'
   ·exact⟨m,⟨s,h⟩,fun k hk' hs=>hk ⟨k,hk',hs⟩⟩
 have hμ:∃μ:St->Nat,∀U,(∃m s,R s U/\ok (cX body m s) kf)->(∃s,R s U/\ok (cX body (μ U) s) kf)/\∀k,k<μ U->¬∃s,R s U/\ok (cX body k s) kf:=⟨fun U=>Classical.epsilon fun m=>(∃s,R s U/\ok (cX body m s) kf)/\∀k,k<m->¬∃s,R s U/\ok (cX body k s) kf,fun U hτ=>Classical.epsilon_spec (I1 U hτ)⟩
 obtain⟨μ,hμ⟩:=hμ
 refine⟨fun U=>∃m s,R s U/\ok (cX body m s) kf,μ,⟨_,s0,h0,h⟩,?_⟩
 intro U hτ
 obtain⟨⟨s,e,hs⟩,_⟩:=hμ U hτ
 generalize hm:μ U=m at hs
 cases m with
 |zero=>exact(zk hs).elim
 |succ m=>
  obtain⟨x,hx,k⟩:=zj hs
  refine hb _ s U e ⟨x,hx,?_⟩
  cases x with
  |inr o=>exact k
  |inl t=>
   intro U' ht
   refine⟨⟨m,t,ht,k⟩,?_⟩
   have h2:=(hμ U' ⟨m,t,ht,k⟩).2
   rcases Nat.lt_or_ge m (μ U')with hlt|hge
   ·exact(h2 m hlt ⟨t,ht,k⟩).elim
   ·omega
theorem ZP{s0 s:ab}{B:Nat}{p:PS}{rr:cU}{ids:List (Nat×cU)}(h:sr s0 s B p rr ids){r:bA×Int}(hr:dT p.b p.at_ p.last=some r){Q:List AV->ab->Prop}
 (h0:(r.2 !=0)=false->∀s',sr s0 s' B {p with at_:=r.1.To} rr ids->Q [tA r.1,.int .i64 r.2] s')(h1:(r.2 !=0)=true->sr s0 s B p rr ids->Q [tA r.1,.int .i64 r.2] s):FN prog 74 [.ref B 0] s Q:=by
 refine xE (s_0:=⟨p.b,p.at_,p.last,iB rr p.st.length⟩) h.cell ?_
 unfold mF
 rw[dF]
 refine⟨r,hr,?_⟩
 cases he:(r.2==0)with
 |true=>
  simp only[he,if_true]
  exact⟨_,rfl,h0 (by unfold bne;rw[he];rfl) _ (h.place _)⟩
 |false=>
  simp only[he,Bool.false_eq_true,if_false]
  refine⟨_,rfl,?_⟩
  have:s.set B (.cells (jq p rr))=s:=dN h.cell
  show Q _ (s.set B (.cells (jq p rr)))
  rw[this]
  exact h1 (by unfold bne;rw[he];rfl) h
theorem ajf{P:Program}{gl:List (List Bool)}{ops f:List ah}{live:List Nat}{Q:Exit->St->Prop}{d:List Bool}{E:St}(C:St->Prop)
 (h1:∀K:St->Prop,(∀U:St,C (U.zm live)->K U)->U1 P gl ops K f d E)(h2:∀φ,C φ->Q .normal φ):U1 P gl ops (wo live Q) f d E:=h1 _ fun U h=>h2 _ h
theorem aaH{E:St}{d:Option Nat}{K:St->Prop}{s s2:ab}{B:Nat}{p2:PS}{rr2:cU}{id:Nat×cU}{fL:List (Nat×cU)}{v:cO}{vs:List cO}(hσ:E.s=s2)(h2:sr s s2 B p2 rr2 (id::fL))(hst:p2.st=v::vs)(cJ:(v.l_.length+1)*56<=room)(x:aa)
 (hK:∀S3 rb cap sp,S3 rb=some (.cells (flat (v.l_++[zV])++sp))->S3 id.1=some (.cells [.bool v.gF,iB id.2 v.l_.length])->rb≠id.1->
   sr s ((S3.set rb (.cells (flat (v.l_++[x])++sp))).set id.1 (.cells [.bool v.gF,.arr rb 0 (v.l_.length+1) cap])) B {p2 with st:=⟨v.gF,v.l_++[x]⟩::vs} rr2 ((id.1,some (rb,cap,sp))::fL)->
   K ({E with s:=S3}.put d (.arr rb 0 (v.l_.length+1) cap))):
 eN 4 56 [.int .i64 0,.int .i64 0,.str [],.sl false 4 0 []] E d K (.arr (P6 id.2) 0 v.l_.length (Nb id.2)) (ur E.s 4 (.sl true 4 1 [.int .i64 0,.int .i64 0,.str [],.sl false 4 0 []])):=by
 obtain⟨F1,F2,H⟩:=h2
 rw[hst]at F1 H
 have H1:Holds s s2 (pW id.2 v.l_++((id.1,WU id.2 v)::((B,.cells (jq p2 rr2))::(pW rr2 (refs (id::fL).reverse)++D8 fL vs)))):=by
  refine H.perm ?_
  refine(List.perm_middle (l₁:=(B,SO.cells (jq p2 rr2))::pW rr2 (refs (id::fL).reverse))).trans ?_
  refine((List.perm_append_comm_assoc ((B,SO.cells (jq p2 rr2))::pW rr2 (refs (id::fL).reverse)) (pW id.2 v.l_) (D8 fL vs)).cons _).trans ?_
  exact List.perm_middle.symm
 obtain⟨sb,e,okr,Hb⟩:=H1.row F1.1
 rw[gb]
 refine wQ (z:=zV) (v:=zV) (hσ.trans e) okr rfl cJ fun s' r' hs' ok'=>?_
 obtain⟨rb,cap,sp,rfl⟩:=Nf ok' (by simp)
 obtain⟨H3,f3⟩:=(Hb.sub hs').aca ok'
 have hne:rb≠id.1:=by
  have:=H3.2.2
  intro he
  rw[he]at this
  simp[pW]at this
 refine hK _ rb cap sp H3.get (H3.mem (by simp[pW,WU])) hne ?_
 have H4:=(Holds.set (o':=.cells (flat (v.l_++[x])++sp)) H3)
 have H5:=(Holds.set (o':=.cells [.bool v.gF,.arr rb 0 (v.l_.length+1) cap]) (H4.perm (List.Perm.swap ..)))
 have H6:=H5.perm (List.perm_append_comm_assoc [(id.1,SO.cells [.bool v.gF,.arr rb 0 (v.l_.length+1) cap]),(rb,.cells (flat (v.l_++[x])++sp))] ((B,SO.cells (jq p2 rr2))::pW rr2 (refs (id::fL).reverse)) (D8 fL vs))
 have hlen:(v.l_++[x]).length=v.l_.length+1:=by simp
 have hl:WU (some (rb,cap,sp)) ⟨v.gF,v.l_++[x]⟩=.cells [.bool v.gF,.arr rb 0 (v.l_.length+1) cap]:=by
  unfold WU iB
  simp only[hlen]
  rfl
 have hp:jq {p2 with st:=⟨v.gF,v.l_++[x]⟩::vs} rr2=jq p2 rr2:=by
  unfold jq
  simp only[hst,List.length_cons]
 have hrefs:refs ((id.1,(some (rb,cap,sp):cU))::fL).reverse=refs (id::fL).reverse:=by rw[sd,sd]
 refine⟨⟨?_,F1.2⟩,by rw[hrefs];exact F2,?_⟩
 ·obtain⟨g1,g2,g3,g4⟩:=f3
  refine⟨g1,by simpa using g2,?_,g4⟩
  rw[List.length_append,al]at g3⊢
  simpa using g3
 ·rw[hp,hrefs]
  have:D8 ((id.1,some (rb,cap,sp))::fL) (⟨v.gF,v.l_++[x]⟩::vs)=[(id.1,SO.cells [.bool v.gF,.arr rb 0 (v.l_.length+1) cap]),(rb,.cells (flat (v.l_++[x])++sp))]++D8 fL vs:=by rw[<-hl];rfl
  show Holds s _ ((B,SO.cells (jq p2 rr2))::(pW rr2 _++D8 ((id.1,some (rb,cap,sp))::fL) (⟨v.gF,v.l_++[x]⟩::vs)))
  rw[this]
  exact H6
theorem Yq{E:St}{d:Option Nat}{K:St->Prop}{s s2:ab}{B:Nat}{p2:PS}{rr2:cU}{id:Nat×cU}{fL:List (Nat×cU)}{v:cO}{vs:List cO}(hσ:E.s=s2)(h2:sr s s2 B p2 rr2 (id::fL))(hst:p2.st=v::vs)(cJ:(v.l_.length+1)*56<=room)(x:aa)
 (hK:∀S3 rb cap cs,S3 rb=some (.cells cs)->S3 id.1=some (.cells [.bool v.gF,iB id.2 v.l_.length])->(∀o,(S3.set rb o) id.1=some (.cells [.bool v.gF,iB id.2 v.l_.length]))->(∀o,(S3.set id.1 o) rb=some (.cells cs))->
   v.l_.length*4+4<=cs.length->
   (∃rr3 L5,sr s ((S3.set rb (.cells (setAt cs (v.l_.length*4) [.int .i64 x.Kind,.int .i64 x.N,.str x.S.b,.sl false 4 x.L.length (flat x.L)]))).set id.1 (.cells [.bool v.gF,.arr rb 0 (v.l_.length+1) cap])) B {p2 with st:=⟨v.gF,v.l_++[x]⟩::vs} rr3 L5)->
   (∃rr3 L5,sr s ((S3.set id.1 (.cells [.bool v.gF,.arr rb 0 (v.l_.length+1) cap])).set rb (.cells (setAt cs (v.l_.length*4) [.int .i64 x.Kind,.int .i64 x.N,.str x.S.b,.sl false 4 x.L.length (flat x.L)]))) B {p2 with st:=⟨v.gF,v.l_++[x]⟩::vs} rr3 L5)->
   K ({E with s:=S3}.put d (.arr rb 0 (v.l_.length+1) cap))):
 eN 4 56 [.int .i64 0,.int .i64 0,.str [],.sl false 4 0 []] E d K (.arr (P6 id.2) 0 v.l_.length (Nb id.2)) (ur E.s 4 (.sl true 4 1 [.int .i64 0,.int .i64 0,.str [],.sl false 4 0 []])):=by
 refine aaH hσ h2 hst cJ x fun S3 rb cap sp g1 g2 hne LZ=>?_
 have hs:setAt (flat (v.l_++[zV])++sp) (v.l_.length*4) [.int .i64 x.Kind,.int .i64 x.N,.str x.S.b,.sl false 4 x.L.length (flat x.L)]=flat (v.l_++[x])++sp:=by
  have h:=gz (v.l_++[zV]) [x] sp 4 v.l_.length rfl (by simp)
  have hx:flat [x]=[.int .i64 x.Kind,.int .i64 x.N,.str x.S.b,.sl false 4 x.L.length (flat x.L)]:=by
   unfold flat
   simp only[List.map_cons,List.map_nil,List.flatten_cons,List.flatten_nil,List.append_nil]
   exact dG x
  rw[hx]at h
  rw[h]
  simp
 refine hK S3 rb cap _ g1 g2 (fun o=>?_) (fun o=>?_) ?_ ?_ ?_
 ·rw[<-g2];unfold ab.set;rw[if_neg (Ne.symm hne)]
 ·rw[<-g1];unfold ab.set;rw[if_neg hne]
 ·rw[List.length_append,al]
  have:aK.w aa=4:=rfl
  rw[this]
  simp
  omega
 ·rw[hs];exact⟨_,_,LZ⟩
 ·rw[hs,set_comm hne];exact⟨_,_,LZ⟩
def Lp(pf:List aa->Option (List aa×Int))(p:PS):Option (PS⊕(aa×Int×Int)):=
 aG (p.st.length<=64)<|
 aW (dT p.b p.at_ p.last) fun r1=>
 bif r1.2 !=0 then some (.inr (zV,0,r1.2))else
 aW (Yh pf {p with at_:=r1.1.To} r1.1) fun r=>
 bif r.2.2.1 !=0 then some (.inr (zV,0,r.2.2.1))else
 bif !r.2.1 then some (.inl r.2.2.2)else
 aG (r.2.2.2.st.length<=64)<|match r.2.2.2.st with
 |[]=>some (.inr (r.1,r.2.2.2.at_,0))
 |v::vs=>aG ((v.l_.length+1)*56<=room)<|some (.inl {r.2.2.2 with st:=⟨v.gF,v.l_++[r.1]⟩::vs})
def sW(pf:List aa->Option (List aa×Int))(b:List UInt8)(a:Int)(last:Bool):Option (aa×Int×Int):=iter (Lp pf) ⟨b,a,last,[]⟩
def zL:AV:=.loc [.int .i64 0,.int .i64 0,.str [],.sl true 4 0 []]
set_option maxHeartbeats 8000000 in
theorem Yr{pf:List aa->Option (List aa×Int)}(hpf:zU pf){s:ab}{b:List UInt8}{a:Int}{last:Bool}{Q:List AV->ab->Prop}
 (hm:ok (sW pf b a last) fun r=>∀s',Sub s s'->Q [vA r.1,.int .i64 r.2.1,.int .i64 r.2.2] s'):FN prog 36 [.sl false 1 b.length (flat b),.int .i64 a,.bool last] s Q:=by
 have hr:room=140737488355328:=rfl
 unfold sW at hm
 refine FO Gw rfl rfl ?_
 rw[vd]
 simp -implicitDefEqProofs only[go_sem,Nat.reduceBEq,Nat.reduceAdd,Nat.reduceMul,Nat.reduceLeDiff,Nat.reduceEqDiff,Nat.reduceBNe,UInt8.reduceToNat,UInt32.reduceToNat]
 intro B hB
 refine O7 (fun(p:PS)(U:St)=>∃s' rr ids,sr s s' B p rr ids/\U=⟨[(6,zL),(9,.ref B 0)],[],s'⟩) ?_ ?_ hm
 ·refine⟨_,none,[],⟨trivial,rfl,(Holds.nil.alloc hB)⟩,rfl⟩
 ·rintro J p U ⟨s',rr,ids,h,rfl⟩ hb
  unfold Lp at hb
  rw[dB]at hb
  obtain⟨cJ,hb⟩:=hb
  unfold zL
  simp -implicitDefEqProofs only[go_sem,Nat.reduceBEq,Nat.reduceAdd,Nat.reduceMul,Nat.reduceLeDiff,Nat.reduceEqDiff,Nat.reduceBNe,UInt8.reduceToNat,UInt32.reduceToNat]
  rw[dF]at hb
  obtain⟨r1,hr1,hb⟩:=hb
  refine ZP h hr1 (fun he s1 h1=>?_) (fun he h1=>?_)
  rotate_left
  ·rw[he,cond_true,aA]at hb
   unfold tA
   simp -implicitDefEqProofs only[go_sem,Nat.reduceBEq,Nat.reduceAdd,Nat.reduceMul,Nat.reduceLeDiff,Nat.reduceEqDiff,Nat.reduceBNe,UInt8.reduceToNat,UInt32.reduceToNat,he,Bool.true_eq_false,Bool.false_eq_true,false_implies,true_implies,true_and,and_true]
   exact hb s' h.2.2.1
  ·rw[he,cond_false,dF]at hb
   obtain⟨r,hr2,hb⟩:=hb
   unfold tA
   simp -implicitDefEqProofs only[go_sem,Nat.reduceBEq,Nat.reduceAdd,Nat.reduceMul,Nat.reduceLeDiff,Nat.reduceEqDiff,Nat.reduceBNe,UInt8.reduceToNat,UInt32.reduceToNat,he,Bool.true_eq_false,Bool.false_eq_true,false_implies,true_implies,true_and,and_true]
   refine aaB hpf h1 cJ ⟨r,hr2,fun he2 s2 h2=>?_,fun he2 s2 rr2 ak8 h2=>?_⟩
   ·have he3:(r.2.2.1 !=0)=true:=by simpa using he2
    rw[he3,cond_true,aA]at hb
    unfold vA
    simp -implicitDefEqProofs only[go_sem,Nat.reduceBEq,Nat.reduceAdd,Nat.reduceMul,Nat.reduceLeDiff,Nat.reduceEqDiff,Nat.reduceBNe,UInt8.reduceToNat,UInt32.reduceToNat,he3,Bool.true_eq_false,Bool.false_eq_true,false_implies,true_implies,true_and,and_true]
    exact hb s2 h2
   ·have he3:(r.2.2.1 !=0)=false:=by simpa using he2
    rw[he3,cond_false]at hb
    unfold vA
    cases hi:r.2.1 with
    |false=>
     rw[hi,Bool.not_false,cond_true,aA]at hb
     simp -implicitDefEqProofs only[go_sem,Nat.reduceBEq,Nat.reduceAdd,Nat.reduceMul,Nat.reduceLeDiff,Nat.reduceEqDiff,Nat.reduceBNe,UInt8.reduceToNat,UInt32.reduceToNat,he3,hi,Bool.not_false,Bool.true_eq_false,Bool.false_eq_true,false_implies,true_implies,true_and,and_true]
     exact hb _ ⟨s2,rr2,ak8,h2,rfl⟩
    |true=>
     rw[hi,Bool.not_true,cond_false]at hb
     simp -implicitDefEqProofs only[go_sem,Nat.reduceBEq,Nat.reduceAdd,Nat.reduceMul,Nat.reduceLeDiff,Nat.reduceEqDiff,Nat.reduceBNe,UInt8.reduceToNat,UInt32.reduceToNat,he3,hi,Bool.not_true,Bool.true_eq_false,Bool.false_eq_true,false_implies,true_implies,true_and,and_true]
     rw[dB]at hb
     obtain⟨akZ,hb⟩:=hb
     have hB2:=h2.cell
     unfold jq at hB2
     refine Nr h2 (by omega) (fun hst=>?_) (fun id fL v vs Q8 hst=>?_)
     ·rw[hst]at hb
      simp only[aA]at hb
      simp -implicitDefEqProofs only[go_sem,Nat.reduceBEq,Nat.reduceAdd,Nat.reduceMul,Nat.reduceLeDiff,Nat.reduceEqDiff,Nat.reduceBNe,UInt8.reduceToNat,UInt32.reduceToNat,hB2,Bool.true_eq_false,Bool.false_eq_true,false_implies,true_implies,true_and,and_true]
      exact hb s2 h2.2.2.1
     ·rw[hst]at hb
      simp only[dB,aA]at hb
      obtain⟨ac4,hb⟩:=hb
      simp -implicitDefEqProofs only[go_sem,Nat.reduceBEq,Nat.reduceAdd,Nat.reduceMul,Nat.reduceLeDiff,Nat.reduceEqDiff,Nat.reduceBNe,UInt8.reduceToNat,UInt32.reduceToNat,hB2,Bool.true_eq_false,Bool.false_eq_true,false_implies,true_implies,true_and,and_true]
      subst Q8
      have hlv:=h2.lv hst
      unfold WU at hlv
      have C1:∀φ:St,(∃s3 rr3 L5,sr s s3 B {r.2.2.2 with st:=⟨v.gF,v.l_++[r.1]⟩::vs} rr3 L5/\φ=⟨[(6,zL),(9,.ref B 0)],[],s3⟩)->J φ:=fun φ hφ=>hb φ hφ
      refine ajf (fun φ=>∃s3 rr3 L5,sr s s3 B {r.2.2.2 with st:=⟨v.gF,v.l_++[r.1]⟩::vs} rr3 L5/\φ=⟨[(6,zL),(9,.ref B 0)],[],s3⟩) ?_ ?_
      rotate_left
      ·rintro φ ⟨s3,rr3,L5,h3,rfl⟩
       unfold zL
       simp -implicitDefEqProofs only[go_sem,Nat.reduceBEq,Nat.reduceAdd,Nat.reduceMul,Nat.reduceLeDiff,Nat.reduceEqDiff,Nat.reduceBNe,UInt8.reduceToNat,UInt32.reduceToNat]
       exact C1 _ ⟨s3,rr3,L5,h3,rfl⟩
      ·intro K hK
       clear C1 hb
       repeat'(first|(simp only[da,cE,bM,cD,Bw,CV,Bool.not_true,Bool.not_false,Bool.or_true,Bool.true_or,Bool.false_or,Bool.or_false,Bool.and_true,Bool.true_and,Bool.and_false,Bool.false_and,cond_true,cond_false,true_and,and_true];done)|with_reducible refine⟨?_,?_⟩|with_reducible exact trivial|(simp only[da,cE,bM,cD,Bw,CV,Bool.not_true,Bool.not_false,Bool.or_true,Bool.true_or,Bool.false_or,Bool.or_false,Bool.and_true,Bool.true_and,Bool.and_false,Bool.false_and,cond_true,cond_false,true_and,and_true])|simp -implicitDefEqProofs only[go_sem,Nat.reduceBEq,Nat.reduceAdd,Nat.reduceMul,Nat.reduceLeDiff,Nat.reduceEqDiff,Nat.reduceBNe,UInt8.reduceToNat,UInt32.reduceToNat,hlv])
       all_goals
        refine Yq rfl h2 hst ac4 r.1 (fun S3 rb cap cs g1 g2 q1 q2 hle f1 f2=>?_)
        obtain⟨ra,ia,f1⟩:=f1
        obtain⟨rz,iz,f2⟩:=f2
        repeat'(first|exact hK _ ⟨_,_,_,f1,rfl⟩|exact hK _ ⟨_,_,_,f2,rfl⟩|omega|(simp only[da,cE,bM,cD,Bw,CV,Bool.not_true,Bool.not_false,Bool.or_true,Bool.true_or,Bool.false_or,Bool.or_false,Bool.and_true,Bool.true_and,Bool.and_false,Bool.false_and,cond_true,cond_false,true_and,and_true];done)|with_reducible refine⟨?_,?_⟩|with_reducible exact trivial|(simp only[da,cE,bM,cD,Bw,CV,Bool.not_true,Bool.not_false,Bool.or_true,Bool.true_or,Bool.false_or,Bool.or_false,Bool.and_true,Bool.true_and,Bool.and_false,Bool.false_and,cond_true,cond_false,true_and,and_true])|simp -implicitDefEqProofs only[go_sem,Nat.reduceBEq,Nat.reduceAdd,Nat.reduceMul,Nat.reduceLeDiff,Nat.reduceEqDiff,Nat.reduceBNe,UInt8.reduceToNat,UInt32.reduceToNat,g1,g2,q1,q2])
end Go.AB
end
section
set_option maxRecDepth 4000
namespace Go.AB
open Go
open Go.Proofs.Tryz (prog)
end Go.AB
end
