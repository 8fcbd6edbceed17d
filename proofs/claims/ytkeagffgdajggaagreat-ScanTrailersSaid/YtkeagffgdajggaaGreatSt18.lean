/- A part. -/
import Derived.Test.YtkeagffgdajggaaGreatSt17
set_option linter.unusedSimpArgs false
set_option linter.unusedVariables false
section
set_option maxRecDepth 4000
namespace Go.AB
open Go
open Go.Proofs.Tryz (prog)
attribute[-go_sem] Nat.add_zero tz du cV dB cg cU
theorem Z6{s:ab}{rb cap:Nat}{sp:List AV}{L:Nat}{R P X S:List VL}{Q:List AV->ab->Prop}(hs:s rb=none)(hL:(L:Int)<2^46)(e:R=P++X++S)(hR:R.length=L)(hz:∀z∈R,0<z.length)
 {b:Nat}(hb:b=P.length+X.length)(hq:∀R' Z,R'=P++Z++S->Z.Perm X->iM jb Z->Q [] (s.set rb (.cells (flat R'++sp)))):FN prog 297 [.arr rb 0 L cap,.int .i64 P.length,.int .i64 (b:Int),.fn 224 [] []] (s.set rb (.cells (flat R++sp))) Q:=by
 subst hb
 have bz:room=140737488355328:=rfl
 have hl:=hR
 rw[e]at hl
 simp only[List.length_append]at hl
 obtain⟨Z,h1,h2,h3⟩:=RY P X S (by rw[<-e];exact hz) (by rw[<-e,hR];omega)
 have:=VN (l:=R) (sp:=sp) (cap:=cap) (Q:=Q) (a:=(P.length:Int)) (b:=((P.length+X.length:Nat):Int)) hs ⟨by omega,by omega⟩ (by omega) ⟨_,by rw[e];exact h1,hq _ Z rfl h2 h3⟩
 rw[hR]at this
 exact this
theorem abG{s:ab}{rb cap:Nat}{sp:List AV}{L:Nat}{R P X Y S:List VL}{Q:List AV->ab->Prop}(hL:(L:Int)<2^46)(e:R=P++X++Y++S)(hR:R.length=L)(hz:∀z∈R,0<z.length)(hX:0<X.length)(hY:0<Y.length)(sX:iM jb X)(sY:iM jb Y)
 {m b:Nat}(hm:m=P.length+X.length)(hb:b=P.length+X.length+Y.length)(hq:∀R' Z,R'=P++Z++S->Z.Perm (X++Y)->iM jb Z->Q [] (s.set rb (.cells (flat R'++sp)))):FN prog 298 [.arr rb 0 L cap,.int .i64 P.length,.int .i64 (m:Int),.int .i64 (b:Int),.fn 224 [] []] (s.set rb (.cells (flat R++sp))) Q:=by
 subst hm hb
 have:=Xk (X.length+Y.length) (P:=P) (X:=X) (Y:=Y) (S:=S) (s:=s) (rb:=rb) (cap:=cap) (sp:=sp) (Q:=Q) (Nat.le_refl _) hX hY (by rw[<-e];exact hz) sX sY (by rw[<-e,hR];omega) (fun Z p1 p2=>hq _ Z rfl p1 p2)
 rw[<-e,hR]at this
 exact this
set_option maxHeartbeats 4000000 in
theorem QJ{s:ab}{rb cap:Nat}{sp:List AV}{l:List VL}{Q:List AV->ab->Prop}(hs:s rb=none)(hl:(l.length:Int)<2^46)(hz:∀z∈l,0<z.length)
 (hq:∀Z,Z.Perm l->iM jb Z->Q [] (s.set rb (.cells (flat Z++sp)))):FN prog 263 [.arr rb 0 l.length cap,.int .i64 l.length,.fn 224 [] []] (s.set rb (.cells (flat l++sp))) Q:=by
 refine FO L3 rfl rfl ?_
 rw[Gs]
 generalize hL:l.length=L at hl
 simp -implicitDefEqProofs only[go_sem,seval]
 refine s6 (fun n τ=>∃R P T:List VL,∃k:Nat,R=P++T/\P.length=k*20/\R.length=L/\R.Perm l/\tx 20 P/\T.length=n/\
  τ=(⟨[(0,.arr rb 0 L cap),(1,.int .i64 L),(2,.fn 224 [] []),(6,.int .i64 20),(7,.int .i64 P.length),(8,.int .i64 ((P.length+20:Nat):Int))],[],s.set rb (.cells (flat R++sp))⟩:St)) L
  ⟨l,[],l,0,rfl,rfl,hL,List.Perm.refl _,tx.nil _,hL,rfl⟩ ?_
 rintro n τ ⟨R,P,T,k,e,hP,hR,hp,hr,hT,rfl⟩ J hJ
 have hRz:∀z∈R,0<z.length:=fun z h=>hz z (hp.mem_iff.1 h)
 have hlen:P.length+T.length=L:=by rw[<-hR,e,List.length_append]
 cases hle:decide (((P.length+20:Nat):Int)<=(L:Int))with
 |true=>
  have Vx:P.length+20<=L:=by have:=of_decide_eq_true hle;omega
  have w1:ao (((P.length+20:Nat):Int)+20)=((P.length+20+20:Nat):Int):=by rw[au (by omega) (by omega)];rfl
  have afc:(T.take 20).length=20:=by rw[List.length_take];omega
  simp -implicitDefEqProofs only[go_sem,seval,hle,Bool.true_eq_false,Bool.false_eq_true,false_implies,true_implies,true_and,and_true,Bool.not_true,Bool.not_false,Bool.true_or,Bool.false_or]
  refine Z6 (P:=P) (X:=T.take 20) (S:=T.drop 20) hs hl (by rw[e,List.append_assoc,List.take_append_drop]) hR hRz (by omega) fun R' Z hR' p1 s1=>?_
  simp -implicitDefEqProofs only[go_sem,seval,w1,Bool.true_eq_false,Bool.false_eq_true,false_implies,true_implies,true_and,and_true,Bool.not_true,Bool.not_false,Bool.true_or,Bool.false_or]
  have hZ:=p1.length_eq
  have hD:(T.drop 20).length=T.length -20:=List.length_drop
  refine hJ (T.length -20) _ (by omega) ⟨R',P++Z,T.drop 20,k+1,hR',by rw[List.length_append];omega,by rw[hR',List.length_append,List.length_append];omega,?_,hr.snoc hP s1,hD,?_⟩
  ·rw[hR']
   refine List.Perm.trans ?_ hp
   rw[e]
   have:=(p1.append_left P).append_right (T.drop 20)
   rwa[List.append_assoc P (T.take 20),List.take_append_drop]at this
  ·rw[show(P++Z).length=P.length+20 by rw[List.length_append];omega]
 |false=>
  have Vx:¬(P.length+20<=L):=by have:=of_decide_eq_false hle;omega
  simp -implicitDefEqProofs only[go_sem,seval,hle,Bool.true_eq_false,Bool.false_eq_true,false_implies,true_implies,true_and,and_true,Bool.not_true,Bool.not_false,Bool.true_or,Bool.false_or]
  refine Z6 (P:=P) (X:=T) (S:=[]) hs hl (by rw[e,List.append_nil]) hR hRz (by omega) fun R0 Z hR0 p1 s1=>?_
  simp -implicitDefEqProofs only[go_sem,seval,Bool.true_eq_false,Bool.false_eq_true,false_implies,true_implies,true_and,and_true,Bool.not_true,Bool.not_false,Bool.true_or,Bool.false_or]
  have hZ:=p1.length_eq
  rw[List.append_nil]at hR0
  refine s6 (fun n τ=>∃R:List VL,∃w:Nat,20<=w/\w<2^48/\R.length=L/\R.Perm l/\tx w R/\L -w=n/\
   τ=(⟨[(0,.arr rb 0 L cap),(1,.int .i64 L),(2,.fn 224 [] []),(6,.int .i64 w)],[],s.set rb (.cells (flat R++sp))⟩:St)) (L -20)
   ⟨R0,20,Nat.le_refl _,by decide,by rw[hR0,List.length_append];omega,by rw[hR0];exact(p1.append_left P).trans (e▸hp),by rw[hR0];exact hr.snoc hP s1,rfl,rfl⟩ ?_
  clear hJ hRz hp hr s1 p1 hR0
  rintro n τ ⟨R,w,hw,hw2,hR,hp,hr,hn,rfl⟩ J hJ
  have hRz:∀z∈R,0<z.length:=fun z h=>hz z (hp.mem_iff.1 h)
  cases hlt:decide ((w:Int)<(L:Int))with
  |false=>
   simp -implicitDefEqProofs only[go_sem,seval,hlt,Bool.true_eq_false,Bool.false_eq_true,false_implies,true_implies,true_and,and_true,Bool.not_true,Bool.not_false,Bool.true_or,Bool.false_or]
   exact hq R hp (hr.all (by have:=of_decide_eq_false hlt;omega))
  |true=>
   have Vz:w<L:=by have:=of_decide_eq_true hlt;omega
   have w2:ao (2*(w:Int))=((2*w:Nat):Int):=by rw[au (by omega) (by omega)];omega
   simp -implicitDefEqProofs only[go_sem,seval,hlt,w2,Bool.true_eq_false,Bool.false_eq_true,false_implies,true_implies,true_and,and_true,Bool.not_true,Bool.not_false,Bool.true_or,Bool.false_or]
   refine s6 (fun n τ=>∃R P T:List VL,∃k:Nat,R=P++T/\P.length=k*(2*w)/\R.length=L/\R.Perm l/\tx (2*w) P/\tx w T/\T.length=n/\
    τ=(⟨[(0,.arr rb 0 L cap),(1,.int .i64 L),(2,.fn 224 [] []),(6,.int .i64 w),(7,.int .i64 P.length),(8,.int .i64 ((P.length+2*w:Nat):Int))],[],s.set rb (.cells (flat R++sp))⟩:St)) L
    ⟨R,[],R,0,rfl,by rw[Nat.zero_mul];rfl,hR,hp,tx.nil _,hr,hR,by rw[List.length_nil,Nat.zero_add];rfl⟩ ?_
   clear hr hp hR hRz R
   rintro n2 τ ⟨R,P,T,k,e,hP,hR,hp,hrP,hrT,hT,rfl⟩ J2 hJ2
   have hRz:∀z∈R,0<z.length:=fun z h=>hz z (hp.mem_iff.1 h)
   have hlen:P.length+T.length=L:=by rw[<-hR,e,List.length_append]
   have w3:ao ((P.length:Int)+(w:Int))=((P.length+w:Nat):Int):=by rw[au (by omega) (by omega)];omega
   have sX:iM jb (T.take w):=by have:=hrT 0;rwa[Nat.zero_mul,List.drop_zero]at this
   have sY:iM jb ((T.drop w).take w):=by have:=hrT 1;rwa[Nat.one_mul]at this
   cases hle:decide (((P.length+2*w:Nat):Int)<=(L:Int))with
   |true=>
    have Vx:P.length+2*w<=L:=by have:=of_decide_eq_true hle;omega
    have w4:ao (((P.length+2*w:Nat):Int)+((2*w:Nat):Int))=((P.length+2*w+2*w:Nat):Int):=by rw[au (by omega) (by omega)];omega
    have l1:(T.take w).length=w:=by rw[List.length_take];omega
    have l2:((T.drop w).take w).length=w:=by rw[List.length_take,List.length_drop];omega
    have l3:(T.drop (2*w)).length=T.length -2*w:=List.length_drop
    have e3:T.take w++(T.drop w).take w++T.drop (2*w)=T:=by rw[List.append_assoc,show T.drop (2*w)=(T.drop w).drop w by rw[List.drop_drop];congr 1;omega,List.take_append_drop,List.take_append_drop]
    simp -implicitDefEqProofs only[go_sem,seval,hle,w3,Bool.true_eq_false,Bool.false_eq_true,false_implies,true_implies,true_and,and_true,Bool.not_true,Bool.not_false,Bool.true_or,Bool.false_or]
    refine abG (P:=P) (X:=T.take w) (Y:=(T.drop w).take w) (S:=T.drop (2*w)) hl (by rw[e,List.append_assoc,List.append_assoc,<-List.append_assoc (T.take w),e3]) hR hRz (by omega) (by omega) sX sY (by omega) (by omega) fun R' Z hR' p1 s1=>?_
    simp -implicitDefEqProofs only[go_sem,seval,w2,w4,Bool.true_eq_false,Bool.false_eq_true,false_implies,true_implies,true_and,and_true,Bool.not_true,Bool.not_false,Bool.true_or,Bool.false_or]
    have hZ:=p1.length_eq
    rw[List.length_append]at hZ
    refine hJ2 (T.length -2*w) _ (by omega) ⟨R',P++Z,T.drop (2*w),k+1,hR',by rw[List.length_append,Nat.add_mul];omega,by rw[hR',List.length_append,List.length_append];omega,?_,hrP.snoc hP s1,?_,l3,?_⟩
    ·rw[hR']
     refine List.Perm.trans ?_ hp
     have:=(p1.append_left P).append_right (T.drop (2*w))
     rw[e]
     rwa[List.append_assoc P (T.take w++(T.drop w).take w),e3]at this
    ·have:=hrT.rest 2
     exact this
    ·rw[show(P++Z).length=P.length+2*w by rw[List.length_append];omega]
   |false=>
    have Vx:¬(P.length+2*w<=L):=by have:=of_decide_eq_false hle;omega
    have w5:ao ((w:Int)*2)=((2*w:Nat):Int):=by rw[au (by omega) (by omega)];omega
    simp -implicitDefEqProofs only[go_sem,seval,hle,w3,w5,Bool.true_eq_false,Bool.false_eq_true,false_implies,true_implies,true_and,and_true,Bool.not_true,Bool.not_false,Bool.true_or,Bool.false_or]
    refine⟨fun hx=>?_,fun hx=>?_⟩
    ·have hx:P.length+w<L:=by have:=of_decide_eq_true hx;omega
     have l1:(T.take w).length=w:=by rw[List.length_take];omega
     have l2:(T.drop w).length=T.length -w:=List.length_drop
     rw[List.take_of_length_le (by omega)]at sY
     refine abG (P:=P) (X:=T.take w) (Y:=T.drop w) (S:=[]) hl (by rw[e,List.append_nil,List.append_assoc,List.take_append_drop]) hR hRz (by omega) (by omega) sX sY (by omega) (by omega) fun R' Z hR' p1 s1=>?_
     simp -implicitDefEqProofs only[go_sem,seval,w5,Bool.true_eq_false,Bool.false_eq_true,false_implies,true_implies,true_and,and_true,Bool.not_true,Bool.not_false,Bool.true_or,Bool.false_or]
     have hZ:=p1.length_eq
     rw[List.take_append_drop]at hZ p1
     rw[List.append_nil]at hR'
     refine hJ (L -2*w) _ (by omega) ⟨R',2*w,by omega,by omega,by rw[hR',List.length_append];omega,?_,by rw[hR'];exact hrP.snoc hP s1,rfl,rfl⟩
     rw[hR']
     exact(p1.append_left P).trans (e▸hp)
    ·have hx:¬P.length+w<L:=by have:=of_decide_eq_false hx;omega
     have s1:=hrT.all (by omega)
     refine hJ (L -2*w) _ (by omega) ⟨R,2*w,by omega,by omega,hR,hp,by rw[e];exact hrP.snoc hP s1,rfl,rfl⟩
theorem QF{s:ab}{rb cap:Nat}{sp:List AV}{l:List VL}{Q:List AV->ab->Prop}(hs:s rb=none)(hl:(l.length:Int)<2^46)(hz:∀z∈l,0<z.length)
 (hq:∀Z,Z.Perm l->iM jb Z->Q [] (s.set rb (.cells (flat Z++sp)))):FN prog 223 [.arr rb 0 l.length cap,.fn 224 [] []] (s.set rb (.cells (flat l++sp))) Q:=by
 refine FO EW rfl rfl ?_
 rw[x8]
 simp -implicitDefEqProofs only[go_sem,seval]
 refine QJ hs hl hz fun Z p1 s1=>?_
 simp -implicitDefEqProofs only[go_sem,seval]
 exact hq Z p1 s1
end Go.AB
end
section
set_option maxRecDepth 4000
namespace Go.AB
open Go
open Go.Proofs.Tryz (prog)
attribute[-go_sem] cV dB cg cU
@[go_sem]theorem aeN(g:Bool):(g=true->(2:Int)≠0)=True:=eq_true (fun _=>by decide)
def cK(t_0:ar):Option (Bool):=some ((t_0.Kind==1)&&(t_0.V.Kind==2))
def rE:IC:=
 (ag [i1 1 (.jf 8 (.t 0)),cY 2 (.bool false)] [1]
 (ag [fa 3 0 1,ld 4 1 3,bn 5 .eql 4 1,mv 6 5,fg 7 6 true 3 1,fg 8 6 true 0 7,lg 9 6 true 1 8,im 10 6 true .eql 9 2,pf 11 6 10,mv 2 11] [2]
 .ret))
theorem Ca:aY prog 124 12 [⟨2,true,none⟩] rE=true:=by kernel_rfl
theorem CH{t_0}{s:ab}{Q:List AV->ab->Prop}:ok (cK t_0) (fun r=>Q [.bool r] s)->FN prog 124 [.agg [.int .i64 t_0.Kind,.int .i64 t_0.bA,.int .i64 t_0.To,.int .i64 t_0.V.Kind,.int .i64 t_0.V.N,.str t_0.V.S.b,sF 4 t_0.V.L,.str t_0.S.b]] s Q:=by
 intro h
 refine FO Ca rfl rfl ?_
 revert h
 rw[rE,cK]
 repeat'(first
  |simp -implicitDefEqProofs only[go_sem,seval])
theorem kc{t_0}{s:ab}{r:Bool}(h:cK t_0=some r):FE prog 124 [.agg [.int .i64 t_0.Kind,.int .i64 t_0.bA,.int .i64 t_0.To,.int .i64 t_0.V.Kind,.int .i64 t_0.V.N,.str t_0.V.S.b,sF 4 t_0.V.L,.str t_0.S.b]] s [.bool r] s:=CH ⟨r,h,rfl,rfl⟩
def dq(e_0:Int):Option (Int):=
 if e_0==6 then
  some e_0
 else
  some 0
def uc:IC:=
 (ag [mi 2 0] [0]
 (.seq (ag [mv 3 0,bn 4 .eql 3 6] [0,4]
 (.cond (.t 4) (ag [mv 5 0,mv 2 5] [2]
 .ret)
 .skip))
 (ag [mi 2 0] [2]
 .ret)))
theorem DR:aY prog 227 6 [⟨2,true,none⟩] uc=true:=by kernel_rfl
theorem Ea{e_0}{s:ab}{Q:List AV->ab->Prop}:ok (dq e_0) (fun r=>Q [.int .i64 r] s)->FN prog 227 [.int .i64 e_0] s Q:=by
 intro h
 refine FO DR rfl rfl ?_
 revert h
 rw[uc,dq]
 repeat'(first
  |simp -implicitDefEqProofs only[go_sem,seval])
theorem uA{e_0}{s:ab}{r:Int}(h:dq e_0=some r):FE prog 227 [.int .i64 e_0] s [.int .i64 r] s:=Ea ⟨r,h,rfl,rfl⟩
def fF(w_0:aC):Option (aa×Int):=
 if w_0.b==(aC.mk [116,114,117,101]).b then
  some ((aa.mk 1 1 (aC.mk []) ([]:List aa)),0)
 else
  if w_0.b==(aC.mk [102,97,108,115,101]).b then
   some ((aa.mk 1 0 (aC.mk []) ([]:List aa)),0)
  else
   if w_0.b==(aC.mk [110,117,108,108]).b then
    some ((aa.mk 0 0 (aC.mk []) ([]:List aa)),0)
   else
    some ((aa.mk 0 0 (aC.mk []) ([]:List aa)),11)
def ue:IC:=
 (ag [i1 2 (.aA dD),mi 3 0] [0,2]
 (.seq (ag [mv 4 0] [2,4]
 (.block 0 (ag [i1 6 (.bin .eql (.t 4) (.c (.str [116,114,117,101]))),mv 5 6] [2,4,5]
 (.cond (.t 5) (ag [i1 7 (.build dD [(0,1,(.c (.int .i64 1))),(1,1,(.c (.int .i64 1)))]),st 4 2 7,mi 3 0] [2,3]
 .ret)
 (ag [i1 9 (.bin .eql (.t 4) (.c (.str [102,97,108,115,101]))),mv 8 9] [2,4,8]
 (.cond (.t 8) (ag [i1 10 (.build dD [(0,1,(.c (.int .i64 1)))]),st 4 2 10,mi 3 0] [2,3]
 .ret)
 (ag [i1 12 (.bin .eql (.t 4) (.c (.str [110,117,108,108]))),mv 11 12] [2,11]
 (.cond (.t 11) (ag [i1 13 (.build dD []),st 4 2 13,mi 3 0] [2,3]
 .ret)
 .skip))))))))
 (ag [i1 14 (.build dD []),st 4 2 14,mi 3 11] [2,3]
 .ret)))
theorem DT:aY prog 183 15 [⟨2,false,some (4,true)⟩,⟨3,true,none⟩] ue=true:=by kernel_rfl
theorem Ed{w_0}{s:ab}{Q:List AV->ab->Prop}:ok (fF w_0) (fun r=>Q [.agg [.int .i64 r.1.Kind,.int .i64 r.1.N,.str r.1.S.b,sF 4 r.1.L],.int .i64 r.2] s)->FN prog 183 [.str w_0.b] s Q:=by
 intro h
 refine FO DT rfl rfl ?_
 revert h
 rw[ue,fF]
 repeat'(first
  |simp -implicitDefEqProofs only[go_sem,seval])
theorem n9{w_0}{s:ab}{r:aa×Int}(h:fF w_0=some r):FE prog 183 [.str w_0.b] s [.agg [.int .i64 r.1.Kind,.int .i64 r.1.N,.str r.1.S.b,sF 4 r.1.L],.int .i64 r.2] s:=Ed ⟨r,h,rfl,rfl⟩
structure eN where
 b_:(List UInt8)
 at_:Int
 aB:Bool
 open_:AV
def kK(s_0:eN):Option (ar×Int×eN):=
 ba (dp s_0.b_ s_0.at_ s_0.aB) fun r1=>
 jn (
  if r1.2==0 then
   some (eN.mk s_0.b_ r1.1.To s_0.aB s_0.open_)
  else
   some s_0) fun(o5:eN)=>
 some (r1.1,r1.2,o5)
def lN:IC:=
 (ag [i1 2 (.aA jK),mi 3 0] [0,2]
 (.seq (.C7 [4] 19 [mv 7 0,nc 8 7,fa 9 0 8,i1 10 (.bM [.sl false 1 0 []] false (.t 9)),mv 11 0,nc 12 11,fa 13 1 12,i1 14 (.bM vm false (.t 13)),mv 15 0,nc 16 15,fa 17 2 16,i1 18 (.bM [.bool false] false (.t 17)),c3 19 127 10 14 18,jJ 6 19,ex 20 6 0,ex 21 6 1,i1 4 (.aA jK),st 8 4 20,mv 5 21] [0,2,4,5])
 (.join [(2,false),(4,false),(5,false)] (ag [mv 22 5,bn 23 .eql 22 0] [0,2,4,5,23]
 (.cond (.t 23) (.bP none [mv 24 0,fa 25 2 4,ld 26 1 25,nc 27 24,fa 28 1 27,st 1 28 26] [2,4,5])
 .skip))
 (ag [lm 29 8 4,mv 30 5,st 8 2 29,mv 3 30] [2,3]
 .ret))))
theorem tE:aY prog 74 31 [⟨2,false,some (8,true)⟩,⟨3,true,none⟩] lN=true:=by kernel_rfl
theorem tK{s_0}{B0:Nat}{s:ab}{Q:List AV->ab->Prop}(hB0:s B0=some (.cells [sF 1 s_0.b_,.int .i64 s_0.at_,.bool s_0.aB,s_0.open_])):ok (kK s_0) (fun r=>Q [.agg [.int .i64 r.1.Kind,.int .i64 r.1.bA,.int .i64 r.1.To,.int .i64 r.1.V.Kind,.int .i64 r.1.V.N,.str r.1.V.S.b,sF 4 r.1.V.L,.str r.1.S.b],.int .i64 r.2.1] (s.set B0 (.cells [sF 1 r.2.2.b_,.int .i64 r.2.2.at_,.bool r.2.2.aB,r.2.2.open_])))->FN prog 74 [.ref B0 0] s Q:=by
 have hS:s=(s.set B0 (.cells [sF 1 s_0.b_,.int .i64 s_0.at_,.bool s_0.aB,s_0.open_])):=by simp only[eW hB0]
 rw[hS]
 intro h
 refine FO tE rfl rfl ?_
 revert h
 rw[lN,kK]
 repeat'(first
  |((with_reducible refine Rn ?_ ?_);exact rfl)
  |with_reducible refine dF (fun _(h:dp s_0.b_ s_0.at_ s_0.aB=some _)=>ll h) (fun _=>rfl) (fun r1=>?_)
  |((with_reducible refine dI (fun(o5:eN)=>⟨[(2,.loc [.int .i64 0,.int .i64 0,.int .i64 0,.int .i64 0,.int .i64 0,.str (aC.mk []).b,.sl true 4 0 [],.str (aC.mk []).b]),(4,.loc [.int .i64 r1.1.Kind,.int .i64 r1.1.bA,.int .i64 r1.1.To,.int .i64 r1.1.V.Kind,.int .i64 r1.1.V.N,.str r1.1.V.S.b,sF 4 r1.1.V.L,.str r1.1.S.b]),(5,.int .i64 r1.2)],[],(s.set B0 (.cells [sF 1 o5.b_,.int .i64 o5.at_,.bool o5.aB,o5.open_]))⟩) (fun J=>?_) ?_);rotate_left;rintro o5)
  |simp -implicitDefEqProofs only[go_sem,seval])
def ct(s_0:eN)(v_1:aa):Option (aa×Int×eN):=
 ba (dp s_0.b_ s_0.at_ s_0.aB) fun r1=>
 ba (dQ (!(r1.2 !=0)) false (cK r1.1)) fun r2=>
 if(r1.2 !=0)||(!r2)then
  ba (dq r1.2) fun r3=>
  some (v_1,r3,s_0)
 else
  ba (dp s_0.b_ r1.1.To s_0.aB) fun r4=>
  if((r4.2 !=0)||(r4.1.Kind !=6))||(!(r4.1.S.b==(aC.mk [82]).b))then
   ba (dq r4.2) fun r5=>
   some (v_1,r5,s_0)
  else
   if((decide (v_1.N<1))||(decide (v_1.N>4096)))||(r1.1.V.N !=0)then
    some (v_1,26,s_0)
   else
    some ((aa.mk 8 v_1.N (aC.mk []) ([]:List aa)),0,(eN.mk s_0.b_ r4.1.To s_0.aB s_0.open_))
def mM:IC:=
 (ag [i1 3 (.jf 4 (.t 1)),i1 4 (.aA dD),mi 5 0] [0,3,4]
 (.seq (.C7 [6] 19 [mv 10 0,nc 11 10,fa 12 0 11,i1 13 (.bM [.sl false 1 0 []] false (.t 12)),mv 14 0,nc 15 14,fa 16 1 15,i1 17 (.bM vm false (.t 16)),mv 18 0,nc 19 18,fa 20 2 19,i1 21 (.bM [.bool false] false (.t 20)),c3 22 127 13 17 21,jJ 9 22,ex 23 9 0,ex 24 9 1,i1 6 (.aA jK),st 8 6 23,mv 7 24] [0,3,4,6,7])
 (.seq (.seq (.bP (some 5) [mv 25 7,bn 26 .neq 25 0,mv 27 26,b6 28 27 false (.load 8 true (.t 6)),Fm 29 27 false 124 28,b6 30 27 false (.un .not (.t 29)),po 31 27 30] [0,3,4,6,7,31])
 (.cond (.t 31) (.seq (.bP (some 3) [lm 32 4 3,mv 33 7,c1 34 227 33,st 4 4 32,mv 5 34] [4,5])
 .ret)
 .skip))
 (.seq (.C7 [8] 17 [mv 36 0,nc 37 36,fa 38 0 37,i1 39 (.bM [.sl false 1 0 []] false (.t 38)),fa 40 2 6,ld 41 1 40,mv 42 0,nc 43 42,fa 44 2 43,i1 45 (.bM [.bool false] false (.t 44)),c3 46 127 39 41 45,jJ 35 46,ex 47 35 0,ex 48 35 1,i1 8 (.aA jK),st 8 8 47,mv 7 48] [0,3,4,6,7,8])
 (.seq (ag [mv 49 7,bn 50 .neq 49 0,mv 51 50,fg 52 51 false 0 8,lg 53 51 false 1 52,im 54 51 false .neq 53 6,po 55 51 54,mv 56 55,fg 57 56 false 7 8,lg 58 56 false 1 57,b6 59 56 false (.bin .neq (.t 58) (.c (.str [82]))),po 60 56 59] [0,3,4,6,7,8,60]
 (.cond (.t 60) (.seq (.bP (some 3) [lm 61 4 3,mv 62 7,c1 63 227 62,st 4 4 61,mv 5 63] [4,5])
 .ret)
 .skip))
 (.seq (ag [fa 64 1 3,ld 65 1 64,bn 66 .lss 65 1,mv 67 66,fg 68 67 false 1 3,lg 69 67 false 1 68,im 70 67 false .gtr 69 4096,po 71 67 70,mv 72 71,fg 73 72 false 3 6,fg 74 72 false 1 73,lg 75 72 false 1 74,im 76 72 false .neq 75 0,po 77 72 76] [0,3,4,8,77]
 (.cond (.t 77) (ag [lm 78 4 3,st 4 4 78,mi 5 26] [4,5]
 .ret)
 .skip))
 (ag [mv 79 0,fa 80 2 8,ld 81 1 80,nc 82 79,fa 83 1 82,st 1 83 81] [3,4]
 (ag [fa 84 1 3,ld 85 1 84,i1 86 (.build dD [(0,1,(.c (.int .i64 8))),(1,1,(.t 85))]),st 4 4 86,mi 5 0] [4,5]
 .ret))))))))
theorem va:aY prog 184 87 [⟨4,false,some (4,true)⟩,⟨5,true,none⟩] mM=true:=by kernel_rfl
theorem vi{s_0 v_1}{B0:Nat}{s:ab}{Q:List AV->ab->Prop}(hB0:s B0=some (.cells [sF 1 s_0.b_,.int .i64 s_0.at_,.bool s_0.aB,s_0.open_])):ok (ct s_0 v_1) (fun r=>Q [.agg [.int .i64 r.1.Kind,.int .i64 r.1.N,.str r.1.S.b,sF 4 r.1.L],.int .i64 r.2.1] (s.set B0 (.cells [sF 1 r.2.2.b_,.int .i64 r.2.2.at_,.bool r.2.2.aB,r.2.2.open_])))->FN prog 184 [.ref B0 0,.agg [.int .i64 v_1.Kind,.int .i64 v_1.N,.str v_1.S.b,sF 4 v_1.L]] s Q:=by
 have hS:s=(s.set B0 (.cells [sF 1 s_0.b_,.int .i64 s_0.at_,.bool s_0.aB,s_0.open_])):=by simp only[eW hB0]
 rw[hS]
 intro h
 refine FO va rfl rfl ?_
 revert h
 rw[mM,ct]
 repeat'(first
  |with_reducible exact dh
  |((with_reducible refine Rn ?_ ?_);exact rfl)
  |(with_reducible first|refine b9 ?_ ?_|refine dT ?_|refine dF (fun _(h:dp s_0.b_ s_0.at_ s_0.aB=some _)=>ll h) (fun _=>rfl) (fun r1=>?_)|refine c8 rfl (fun _(h:cK r1.1=some _)=>kc h) (fun _=>rfl) (fun r2=>?_)|refine dF (fun _(h:dq r1.2=some _)=>uA h) (fun _=>rfl) (fun r3=>?_)|refine dF (fun _(h:dp s_0.b_ r1.1.To s_0.aB=some _)=>ll h) (fun _=>rfl) (fun r4=>?_)|refine dF (fun _(h:dq r4.2=some _)=>uA h) (fun _=>rfl) (fun r5=>?_))
  |simp -implicitDefEqProofs only[go_sem,seval])
structure aD where
 dC:Bool
 l_:(List aa)
end Go.AB
end
section
namespace Go.AB
open Go
def Holds(s0 s:ab)(H:List (Nat×SO)):Prop:=Sub s0 s/\(∀p∈H,s p.1=some p.2/\s0 p.1=none)/\(H.map Prod.fst).Nodup
theorem Holds.perm{s0 s:ab}{H H':List (Nat×SO)}(h:Holds s0 s H)(p:H.Perm H'):Holds s0 s H':=⟨h.1,fun x hx=>h.2.1 x (p.mem_iff.2 hx),(p.map Prod.fst).nodup_iff.1 h.2.2⟩
theorem Holds.nil{s:ab}:Holds s s []:=⟨Sub.refl s,fun p hp=>by simp at hp,by simp⟩
theorem Holds.get{s0 s:ab}{k:Nat}{o:SO}{H:List (Nat×SO)}(h:Holds s0 s ((k,o)::H)):s k=some o:=(h.2.1 _ List.mem_cons_self).1
theorem Holds.mem{s0 s:ab}{k:Nat}{o:SO}{H:List (Nat×SO)}(h:Holds s0 s H)(hm:(k,o)∈H):s k=some o:=(h.2.1 _ hm).1
theorem Holds.tail{s0 s:ab}{p:Nat×SO}{H:List (Nat×SO)}(h:Holds s0 s (p::H)):Holds s0 s H:=⟨h.1,fun x hx=>h.2.1 x (List.mem_cons_of_mem _ hx),(List.nodup_cons.1 h.2.2).2⟩
theorem Holds.set{s0 s:ab}{k:Nat}{o o':SO}{H:List (Nat×SO)}(h:Holds s0 s ((k,o)::H)):Holds s0 (s.set k o') ((k,o')::H):=by
 obtain⟨h1,h2,h3⟩:=h
 have h0:=(h2 _ List.mem_cons_self).2
 refine⟨fun b x hb=>?_,fun p hp=>?_,h3⟩
 ·rw[aW (fun e=>by subst e;rw[h0]at hb;cases hb)];exact h1 b x hb
 ·rcases List.mem_cons.1 hp with rfl|hp
  ·exact⟨bc ..,h0⟩
  ·obtain⟨q1,q2⟩:=h2 p (List.mem_cons_of_mem _ hp)
   refine⟨?_,q2⟩
   rw[aW (fun e=>?_)];exact q1
   have:=(List.nodup_cons.1 h3).1
   exact this (by show k∈H.map Prod.fst;rw[<-e];exact List.mem_map_of_mem hp)
theorem Holds.aaN{s0 s:ab}{H:List (Nat×SO)}(h:Holds s0 s H){k:Nat}(hk:s k=none):k∉H.map Prod.fst:=by
 intro hm
 obtain⟨p,hp,rfl⟩:=List.mem_map.1 hm
 rw[(h.2.1 p hp).1]at hk;cases hk
theorem Holds.alloc{s0 s:ab}{k:Nat}{o:SO}{H:List (Nat×SO)}(h:Holds s0 s H)(hk:s k=none):Holds s0 (s.set k o) ((k,o)::H):=by
 have hn:=h.aaN hk
 obtain⟨h1,h2,h3⟩:=h
 have h0:s0 k=none:=by
  cases e:s0 k with
  |none=>rfl
  |some x=>rw[h1 k x e]at hk;cases hk
 refine⟨h1.set hk,fun p hp=>?_,by rw[List.map_cons];exact List.nodup_cons.2 ⟨hn,h3⟩⟩
 rcases List.mem_cons.1 hp with rfl|hp
 ·exact⟨bc ..,h0⟩
 ·obtain⟨q1,q2⟩:=h2 p hp
  exact⟨by rw[aW (fun e=>by rw[e,hk]at q1;cases q1)];exact q1,q2⟩
theorem Holds.sub{s0 s s':ab}{H:List (Nat×SO)}(h:Holds s0 s H)(hs:Sub s s'):Holds s0 s' H:=⟨fun b o hb=>hs b o (h.1 b o hb),fun p hp=>⟨hs _ _ (h.2.1 p hp).1,(h.2.1 p hp).2⟩,h.2.2⟩
theorem OJ{s:ab}{k j:Nat}(h:j≠k):(s.del k) j=s j:=by unfold ab.del;rw[if_neg h]
theorem F6{s:ab}{k:Nat}{o:SO}(h:s k=some o):(s.del k).set k o=s:=by
 funext i
 unfold ab.set ab.del
 by_cases e:i=k
 ·subst e;simp[h]
 ·simp[e]
theorem Holds.del{s0 s:ab}{k:Nat}{o:SO}{H:List (Nat×SO)}(h:Holds s0 s ((k,o)::H)):Holds s0 (s.del k) H/\(s.del k) k=none:=by
 obtain⟨h1,h2,h3⟩:=h
 have h0:=(h2 _ List.mem_cons_self).2
 refine⟨⟨fun b x hb=>?_,fun p hp=>?_,(List.nodup_cons.1 h3).2⟩,by unfold ab.del;simp⟩
 ·rw[OJ (fun e=>by subst e;rw[h0]at hb;cases hb)];exact h1 b x hb
 ·obtain⟨q1,q2⟩:=h2 p (List.mem_cons_of_mem _ hp)
  refine⟨?_,q2⟩
  rw[OJ (fun e=>?_)];exact q1
  have:=(List.nodup_cons.1 h3).1
  exact this (by show k∈H.map Prod.fst;rw[<-e];exact List.mem_map_of_mem hp)
section
variable{α:Type}[aR α]
def nb(r:cm)(l:List α):List (Nat×SO):=match r with
 |none=>[]
 |some (b,_,sp)=>[(b,.cells (flat l++sp))]
def Lf(r:cm)(l:List α):Prop:=match r with
 |none=>l=[]
 |some (_,cap,sp)=>0<cap/\l.length<=cap/\(flat l++sp).length=cap*aR.w α/\views sp=sp
theorem Holds.row{s0 s:ab}{r:cm}{l:List α}{H:List (Nat×SO)}(h:Holds s0 s (nb r l++H))(hf:Lf r l):∃s1,s=fc s1 r l/\fH s1 r l/\Holds s0 s1 H:=by
 cases r with
 |none=>exact⟨s,rfl,hf,h⟩
 |some x=>
  obtain⟨b,cap,sp⟩:=x
  have h':Holds s0 s ((b,.cells (flat l++sp))::H):=h
  obtain⟨h1,h2⟩:=h'.del
  exact⟨s.del b,(F6 h'.get).symm,⟨h2,hf⟩,h1⟩
theorem Holds.UL{s0 s1:ab}{r:cm}{l:List α}{H:List (Nat×SO)}(h:Holds s0 s1 H)(ho:fH s1 r l):Holds s0 (fc s1 r l) (nb r l++H)/\Lf r l:=by
 cases r with
 |none=>exact⟨h,ho⟩
 |some x=>
  obtain⟨b,cap,sp⟩:=x
  exact⟨h.alloc ho.1,ho.2⟩
end
end Go.AB
end
section
set_option maxRecDepth 4000
namespace Go.AB
open Go
open Go.Proofs.Tryz (prog)
attribute[-go_sem] Nat.add_zero tz du
def kz:IC:=
 (ag [cY 2 (.bool false)] [0]
 (ag [mv 3 0,nc 4 3,fa 5 0 4,i1 6 (.bM [.bool false] false (.t 5)),mv 7 6,bK 8 0 7 true,b6 9 7 true (.nilCheck (.t 8)),fg 10 7 true 1 9,b6 11 7 true (.bM [.sl false 4 0 []] false (.t 10)),b6 12 7 true (.len 0 (.t 11)),im 13 7 true .rem 12 2,im 14 7 true .eql 13 0,pf 15 7 14,mv 2 15] [2]
 .ret))
theorem qL:aY prog 181 16 [⟨2,true,none⟩] kz=true:=by kernel_rfl
def mN:IC:=
 (ag [cY 2 (.cZ)] [0]
 (.seq (ag [mv 3 0,nc 4 3,fa 5 3 4,i1 6 (.bM [.sl false 1 0 []] false (.t 5)),le 7 0 6,bn 8 .eql 7 0] [0,8]
 (.cond (.t 8) (ag [cY 2 (.cZ)] [2]
 .ret)
 .skip))
 (.seq (.bP (some 13) [mv 9 0,nc 10 9,fa 11 3 10,i1 12 (.bM [.sl false 1 0 []] false (.t 11)),mv 13 0,nc 14 13,fa 15 3 14,i1 16 (.bM [.sl false 1 0 []] false (.t 15)),le 17 0 16,bn 18 .sub 17 1,ia 19 [.cZ] 12 18,i1 20 (.bM [.cZ] false (.t 19)),mv 2 20] [2])
 .ret)))
theorem vb:aY prog 76 21 [⟨2,true,none⟩] mN=true:=by kernel_rfl
def lf:IC:=
 (ag [mi 4 0] [0,1]
 (.seq (ag [mv 6 0,c1 7 76 6,mv 5 7] [0,1,5]
 (.seq (.bP (some 5) [mv 8 5,i1 9 (.HO true (.t 8) (.c (.cZ))),mv 10 9,bK 11 5 10 true,Fm 12 10 true 181 11,pf 13 10 12] [0,1,13])
 (.cond (.t 13) (ag [mi 4 11] [4]
 .ret)
 .skip)))
 (.seq (ag [mv 14 0,nc 15 14,fa 16 3 15,ld 17 1 16,le 18 0 17,bn 19 .geq 18 64] [0,1,19]
 (.cond (.t 19) (ag [mi 4 15] [4]
 .ret)
 .skip))
 (ag [mv 20 0,mv 21 0,nc 22 21,fa 23 3 22,ld 24 1 23,mv 25 1,i1 26 (.build [.bool false,.arr 0 0 0 0] [(0,1,(.t 25))]),i1 27 (.qE 2 (.t 26)),i1 28 (.bB 1 1 [.cZ] [(0,1,(.t 27))]),i1 29 (.fL 1 8 [.cZ] (.t 24) (.t 28)),nc 30 20,fa 31 3 30,st 1 31 29] []
 (ag [mi 4 0] [4]
 .ret)))))
theorem rT:aY prog 128 32 [⟨4,true,none⟩] lf=true:=by kernel_rfl
def mL:IC:=
 (ag [i1 4 (.aA dD),mi 5 0] [0,1,4]
 (ag [mv 9 0,c1 10 76 9,mv 6 10] [0,1,4,6]
 (.seq (.block 0 (ag [mv 12 6,i1 13 (.HO false (.t 12) (.c (.cZ))),mv 14 13,bK 15 6 14 false,b6 16 14 false (.nilCheck (.t 15)),fg 17 14 false 0 16,lg 18 14 false 1 17,bK 19 1 14 false,b6 20 14 false (.RG true (.t 18) (.t 19)),po 21 14 20,mv 22 21,bK 23 1 22 false,bK 24 23 22 false,bK 25 6 24 true,Fm 26 24 true 181 25,b6 27 24 true (.un .not (.t 26)),b6 28 22 false (.pick (.t 24) (.t 27) (.c (.bool false))),po 29 22 28,mv 11 29] [0,1,4,6,11]
 (.cond (.t 11) (ag [i1 30 (.build dD []),st 4 4 30,mi 5 11] [4,5]
 .ret)
 (ag [mv 32 1,no 33 32,mv 31 33] [0,4,6,31]
 (.cond (.t 31) (.seq (.bP (some 14) [mv 34 0,mv 35 0,nc 36 35,fa 37 3 36,ld 38 1 37,mv 39 0,nc 40 39,fa 41 3 40,ld 42 1 41,le 43 0 42,bn 44 .sub 43 1,WW 45 1 38 44,nc 46 34,fa 47 3 46,st 1 47 45] [4,6])
 (ag [mv 48 6,nc 49 48,fa 50 1 49,i1 51 (.ux 4 false (.t 50)),i1 52 (.build dD [(0,1,(.c (.int .i64 6))),(3,1,(.t 51))]),st 4 4 52,mi 5 0] [4,5]
 .ret))
 .skip)))))
 (ag [mv 54 6,nc 55 54,fa 56 1 55,i1 57 (.ux 4 false (.t 56)),c1 58 182 57,jJ 53 58,ex 59 53 0,ex 60 53 1,mv 7 59,mv 8 60] [0,4,7,8]
 (.seq (ag [mv 61 8,bn 62 .neq 61 0] [0,4,7,8,62]
 (.cond (.t 62) (ag [i1 63 (.build dD []),mv 64 8,st 4 4 63,mv 5 64] [4,5]
 .ret)
 .skip))
 (.seq (.bP (some 14) [mv 65 0,mv 66 0,nc 67 66,fa 68 3 67,ld 69 1 68,mv 70 0,nc 71 70,fa 72 3 71,ld 73 1 72,le 74 0 73,bn 75 .sub 74 1,WW 76 1 69 75,nc 77 65,fa 78 3 77,st 1 78 76] [4,7])
 (ag [mv 79 7,i1 80 (.build dD [(0,1,(.c (.int .i64 7))),(3,1,(.t 79))]),st 4 4 80,mi 5 0] [4,5]
 .ret)))))))
theorem u7:aY prog 129 81 [⟨4,false,some (4,true)⟩,⟨5,true,none⟩] mL=true:=by kernel_rfl
def kA:IC:=
 (ag [i1 3 (.jf 8 (.t 1)),i1 4 (.aA dD),mi 5 0] [0,3,4]
 (.seq (ag [mv 7 0,c1 8 76 7,mv 6 8] [0,3,4,6]
 (ag [mv 9 6,i1 10 (.HO true (.t 9) (.c (.cZ))),mv 11 10,bK 12 6 11 true,Fm 13 11 true 181 12,pf 14 11 13,mv 15 14,fg 16 15 true 0 3,lg 17 15 true 1 16,im 18 15 true .neq 17 1,bK 19 18 15 true,fg 20 19 false 3 3,fg 21 19 false 0 20,lg 22 19 false 1 21,im 23 19 false .neq 22 5,b6 24 15 true (.pick (.t 19) (.c (.bool true)) (.t 23)),pf 25 15 24] [0,3,4,25]
 (.cond (.t 25) (ag [i1 26 (.build dD []),st 4 4 26,mi 5 11] [4,5]
 .ret)
 .skip)))
 (.seq (.block 0 (ag [fa 28 0 3,ld 29 1 28,bn 30 .eql 29 6,mv 27 30] [0,3,4,27]
 (.cond (.t 27) (ag [fa 31 7 3,ld 32 1 31,c1 33 183 32,ex 34 33 0,ex 35 33 1,st 4 4 34,mv 5 35] [4,5]
 .ret)
 (ag [lm 37 8 3,c1 38 124 37,mv 36 38] [0,3,4,36]
 (.cond (.t 36) (ag [mv 39 0,fa 40 3 3,lm 41 4 40,c2 42 184 39 41,ex 43 42 0,ex 44 42 1,st 4 4 43,mv 5 44] [4,5]
 .ret)
 .skip)))))
 (ag [fa 45 3 3,lm 46 4 45,st 4 4 46,mi 5 0] [4,5]
 .ret))))
theorem qM:aY prog 130 47 [⟨4,false,some (4,true)⟩,⟨5,true,none⟩] kA=true:=by kernel_rfl
def lO:IC:=
 (ag [i1 3 (.jf 8 (.t 1)),i1 4 (.aA dD),cY 5 (.bool false),mi 6 0] [0,3,4]
 (ag [i1 7 (.aA dD)] [0,3,4,7]
 (ag [mi 8 0] [0,3,4,7]
 (.seq (ag [fa 9 0 3,ld 10 1 9] [0,3,4,7,10]
 (.block 0 (ag [bn 28 .eql 10 0,mv 27 28] [0,3,4,7,10,27]
 (.cond (.t 27) (ag [lm 29 4 7,st 4 4 29,cY 5 (.bool false),mi 6 10] [4,5,6]
 .ret)
 (.seq (ag [bn 31 .eql 10 2,mv 30 31] [0,3,4,7,10,30]
 (.cond (.t 30) .skip
 (.bP none [bn 32 .eql 10 4,mv 30 32] [0,3,4,7,10,30])))
 (.cond (.t 30) (.seq (.Az [4] [(1,0,lm 33 4 7),(0,1,mv 34 0),(0,2,fa 35 0 3),(0,3,ld 36 1 35),(0,4,bn 37 .eql 36 4),(2,5,c2 38 128 34 37),(0,6,st 4 4 33),(0,7,cY 5 (.bool false)),(0,8,mv 6 38)] [4,5,6])
 .ret)
 (.seq (ag [bn 40 .eql 10 3,mv 39 40] [0,3,4,7,10,39]
 (.cond (.t 39) .skip
 (.bP none [bn 41 .eql 10 5,mv 39 41] [0,3,4,7,39])))
 (.cond (.t 39) (.bP none [mv 43 0,fa 44 0 3,ld 45 1 44,bn 46 .eql 45 5,c2 47 129 43 46,jJ 42 47,ex 48 42 0,ex 49 42 1,st 4 7 48,mv 8 49] [4,7,8])
 (ag [mv 12 0,lm 13 8 3,c2 14 130 12 13,jJ 11 14,ex 15 11 0,ex 16 11 1,st 4 7 15,mv 8 16] [0,4,7,8]
 (ag [mv 17 8,bn 18 .eql 17 0,mv 19 18,bK 20 0 19 true,b6 21 19 true (.nilCheck (.t 20)),fg 22 19 true 3 21,lg 23 19 true 1 22,b6 24 19 true (.len 0 (.t 23)),im 25 19 true .geq 24 64,pf 26 19 25] [4,7,8,26]
 (.cond (.t 26) (.bP none [mi 8 15] [4,7,8])
 .skip)))))))))))
 (ag [lm 50 4 7,mv 51 8,bn 52 .eql 51 0,mv 53 8,st 4 4 50,mv 5 52,mv 6 53] [4,5,6]
 .ret)))))
theorem tF:aY prog 75 54 [⟨4,false,some (4,true)⟩,⟨5,true,none⟩,⟨6,true,none⟩] lO=true:=by kernel_rfl
structure J3 where
 n:Option Nat
def J3.c(x:J3):AV:=match x.n with
 |none=>.cZ
 |some b=>.ref b 0
instance:aR J3:=⟨1,fun x=>[x.c],⟨none⟩,by decide,fun _=>rfl,fun x=>by obtain⟨_|b⟩:=x<;>rfl⟩
def refs(ids:List (Nat×cm)):List J3:=ids.map fun i=>⟨some i.1⟩
def PU(r:cm)(v:aD):SO:=.cells [.bool v.dC,ga r v.l_.length]
def X6(id:Nat×cm)(v:aD):List (Nat×SO):=(id.1,PU id.2 v)::nb id.2 v.l_
def Am:List (Nat×cm)->List aD->List (Nat×SO)
 |id::ids,v::vs=>X6 id v++Am ids vs
 |_,_=>[]
def Sj:List (Nat×cm)->List aD->Prop
 |id::ids,v::vs=>Lf id.2 v.l_/\Sj ids vs
 |[],[]=>True
 |_,_=>False
theorem pb:∀{ids:List (Nat×cm)}{vs:List aD},Sj ids vs->ids.length=vs.length
 |[],[],_=>rfl
 |_::ids,_::vs,h=>by rw[List.length_cons,List.length_cons,pb h.2]
 |[],_::_,h=>h.elim
 |_::_,[],h=>h.elim
structure PS where
 b:List UInt8
 at_:Int
 last:Bool
 st:List aD
def gZ(p:PS)(rr:cm):List AV:=[.sl false 1 p.b.length (flat p.b),.int .i64 p.at_,.bool p.last,ga rr p.st.length]
def pE(s0 s:ab)(B:Nat)(p:PS)(rr:cm)(ids:List (Nat×cm)):Prop:=Sj ids p.st/\Lf rr (refs ids.reverse)/\Holds s0 s ((B,.cells (gZ p rr))::(nb rr (refs ids.reverse)++Am ids p.st))
theorem pk(ids:List (Nat×cm)):(refs ids).length=ids.length:=by unfold refs;simp
theorem pE.cell{s0 s:ab}{B:Nat}{p:PS}{rr:cm}{ids:List (Nat×cm)}(h:pE s0 s B p rr ids):s B=some (.cells (gZ p rr)):=h.2.2.get
theorem pE.ref{s0 s:ab}{B:Nat}{p:PS}{rr:cm}{id:Nat×cm}{ids:List (Nat×cm)}(h:pE s0 s B p rr (id::ids)):
 ∃rb cap sp,rr=some (rb,cap,sp)/\s rb=some (.cells (flat (refs (id::ids).reverse)++sp))/\(flat (refs (id::ids).reverse)++sp)[ids.length]? =some (.ref id.1 0):=by
 obtain⟨h1,h2,h3⟩:=h
 have hl:0<(refs (id::ids).reverse).length:=by rw[pk];simp
 cases rr with
 |none=>rw[show refs (id::ids).reverse=[] from h2]at hl;simp at hl
 |some x=>
  obtain⟨rb,cap,sp⟩:=x
  refine⟨rb,cap,sp,rfl,h3.mem (by simp[nb]),?_⟩
  have hi:ids.length<(refs (id::ids).reverse).length:=by rw[pk];simp
  have:=uP (refs (id::ids).reverse) sp (i:=ids.length) (r:=0) hi (by decide)
  rw[show ids.length*aR.w J3+0=ids.length by show ids.length*1+0=_;omega]at this
  rw[this]
  have e:(refs (id::ids).reverse)[ids.length]=⟨some id.1⟩:=by
   unfold refs
   simp
  rw[e];rfl
theorem Mz{cs:List AV}{off:Nat}{a:AV}(h:cs[off]? =some a):off+1<=cs.length/\AB.sub cs off 1=[a]:=by
 obtain⟨h1,h2⟩:=List.getElem?_eq_some_iff.1 h
 refine⟨h1,?_⟩
 unfold AB.sub
 rw[List.drop_eq_getElem_cons h1,h2];rfl
theorem Nf{cs:List AV}{off b:Nat}(h:cs[off]? =some (.ref b 0)):Jh [.cZ] false off (some (.cells cs))=.prt (off+1<=cs.length) (.ref b 0):=by
 show Zg _ (oz false (pad [.cZ] (views (AB.sub cs off 1))))=_
 rw[(Mz h).2]
 rfl
theorem HK{s0 s:ab}{B:Nat}{p:PS}{rr:cm}{ids:List (Nat×cm)}(h:pE s0 s B p rr ids)(bz:p.st.length<=room){Q:List AV->ab->Prop}(hn:p.st=[]->Q [.cZ] s)
 (hc:∀id eX v vs,ids=id::eX->p.st=v::vs->Q [.ref id.1 0] s):FN prog 76 [.ref B 0] s Q:=by
 have hB:=h.cell
 have hlen:=pb h.1
 refine FO vb rfl rfl ?_
 rw[mN]
 unfold gZ at hB
 simp -implicitDefEqProofs only[go_sem,seval,hB]
 refine⟨fun he=>hn (List.eq_nil_of_length_eq_zero (by simpa using he)),fun hne=>?_⟩
 have hne:p.st.length≠0:=by simpa using hne
 cases cj:p.st with
 |nil=>rw[cj]at hne;exact absurd rfl hne
 |cons v vs=>
 cases ids with
 |nil=>rw[cj]at hlen;simp at hlen
 |cons id eX=>
 obtain⟨rb,cap,sp,rfl,h1,h2⟩:=h.ref
 have hl:p.st.length=eX.length+1:=by rw[<-hlen];rfl
 rw[<-cj]
 have hr:room=140737488355328:=rfl
 have hw:ao ((p.st.length:Int) -1)=(eX.length:Int):=by rw[au (by omega) (by omega)];omega
 rw[hw]
 refine⟨by omega,?_⟩
 show qK _ _ _ (Jh _ _ _ (s rb))
 rw[h1,Int.toNat_natCast,Nat.mul_one,Nf h2]
 simp -implicitDefEqProofs only[go_sem,seval]
 exact⟨by have:=(Mz h2).1;rwa[List.length_append]at this,hc id eX v vs rfl cj⟩
theorem Du{s:ab}{B n:Nat}{d:Bool}{r:cm}{Q:List AV->ab->Prop}(hB:s B=some (.cells [.bool d,ga r n]))(hq:Q [.bool (d&&((n:Int).tmod 2==0))] s):FN prog 181 [.ref B 0] s Q:=by
 refine FO qL rfl rfl ?_
 rw[kz]
 simp -implicitDefEqProofs only[go_sem,seval,hB]
 exact hq
def b8:List aD->Bool
 |[]=>false
 |v::_=>v.dC&&((v.l_.length:Int).tmod 2==0)
theorem pE.lv{s0 s:ab}{B:Nat}{p:PS}{rr:cm}{id:Nat×cm}{ids:List (Nat×cm)}{v:aD}{vs:List aD}(h:pE s0 s B p rr (id::ids))(cj:p.st=v::vs):s id.1=some (PU id.2 v):=by
 refine h.2.2.mem ?_
 rw[cj]
 simp[Am,X6]
theorem pj(id:Nat×cm)(ids:List (Nat×cm)):refs (id::ids).reverse=refs ids.reverse++[⟨some id.1⟩]:=by unfold refs;simp
theorem EA{E:St}{d:Option Nat}{K:St->Prop}{s0 s:ab}{B b:Nat}{p:PS}{rr:cm}{ids:List (Nat×cm)}{fO:Bool}(h:pE s0 s B p rr ids)(bz:p.st.length<=64)(hb:s b=none)(hσ:E.s=s.set b (.cells [.bool fO,.arr 0 0 0 0]))
 (hK:∀s1 rr',s1 B=some (.cells (gZ p rr))->(∃eX,pE s0 (s1.set B (.cells (gZ {p with st:=⟨fO,[]⟩::p.st} rr'))) B {p with st:=⟨fO,[]⟩::p.st} rr' eX)->K ({E with s:=s1}.put d (ga rr' (p.st.length+1)))):
 dK 1 8 [.cZ] E d K (ga rr p.st.length) (tO E.s 1 (.sl true 1 1 [.ref b 0])):=by
 obtain⟨h1,h2,h3⟩:=h
 have hlen:=pb h1
 have hr:room=140737488355328:=rfl
 have hl:(refs ids.reverse).length=p.st.length:=by rw[pk];simp[hlen]
 have H0:=h3.alloc (o:=.cells [.bool fO,.arr 0 0 0 0]) hb
 have H0':Holds s0 (s.set b (.cells [.bool fO,.arr 0 0 0 0])) (nb rr (refs ids.reverse)++([(b,.cells [.bool fO,.arr 0 0 0 0]),(B,.cells (gZ p rr))]++Am ids p.st)):=H0.perm (List.perm_append_comm_assoc [(b,SO.cells [.bool fO,.arr 0 0 0 0]),(B,SO.cells (gZ p rr))] _ _)
 obtain⟨s1,e,ok,H1⟩:=H0'.row h2
 rw[kQ,<-hl]
 refine sL (z:=(⟨none⟩:J3)) (v:=(⟨some b⟩:J3)) (hσ.trans e) ok rfl (by rw[hl];omega) fun s' r' hs' ok'=>?_
 rw[hl]
 obtain⟨H2,hf⟩:=(H1.sub hs').UL ok'
 have H3:Holds s0 (fc s' r' (refs ids.reverse++[⟨some b⟩])) ((B,.cells (gZ p rr))::(nb r' (refs ids.reverse++[⟨some b⟩])++((b,.cells [.bool fO,.arr 0 0 0 0])::Am ids p.st))):=by
  refine H2.perm ?_
  refine(List.perm_append_comm_assoc _ [(b,SO.cells [.bool fO,.arr 0 0 0 0]),(B,SO.cells (gZ p rr))] _).trans ?_
  refine(List.Perm.swap ..).trans ?_
  refine List.Perm.cons _ ?_
  exact List.perm_append_comm_assoc [(b,SO.cells [.bool fO,.arr 0 0 0 0])] _ _
 refine hK _ r' H3.get ⟨(b,none)::ids,⟨rfl,h1⟩,?_,?_⟩
 ·rw[pj];exact hf
 ·rw[pj]
  exact H3.set
theorem Om{s0 s:ab}{B:Nat}{p:PS}{rr:cm}{ids:List (Nat×cm)}(h:pE s0 s B p rr ids)(bz:p.st.length<=64){fO:Bool}{Q:List AV->ab->Prop}(he:b8 p.st=true->Q [.int .i64 11] s)
 (hd:b8 p.st=false->64<=p.st.length->Q [.int .i64 15] s)
 (hk:b8 p.st=false->p.st.length<64->∀s' rr' eX,pE s0 s' B {p with st:=⟨fO,[]⟩::p.st} rr' eX->Q [.int .i64 0] s'):FN prog 128 [.ref B 0,.bool fO] s Q:=by
 have hB:=h.cell
 have hlen:=pb h.1
 have hr:room=140737488355328:=rfl
 have rest:b8 p.st=false->∀(Q':Prop),Q'->Q':=fun _ _ x=>x
 refine FO rT rfl rfl ?_
 rw[lf]
 unfold gZ at hB
 simp -implicitDefEqProofs only[go_sem,seval]
 refine HK h (by omega) (fun cj=>?_) (fun id eX v vs KB cj=>?_)
 ·simp -implicitDefEqProofs only[go_sem,seval,hB]
  refine⟨[.bool false],rfl,fun h=>(by cases h),?_⟩
  have hw:b8 p.st=false:=by rw[cj];rfl
  simp -implicitDefEqProofs only[go_sem,seval,hB,Bool.false_and,Bool.and_false]
  refine⟨fun hx=>he (by first|exact hx|exact absurd hx id),fun hx=>?_⟩
  have hw:b8 p.st=false:=by first|exact hw|exact hx
  refine⟨fun hx=>hd hw (by have:=of_decide_eq_true hx;omega),fun hx b hb=>?_⟩
  have hlt:p.st.length<64:=by have:=of_decide_eq_false hx;omega
  refine EA h bz hb rfl fun s1 rr' hB1⟨eX,Pr⟩=>?_
  unfold gZ at hB1
  simp -implicitDefEqProofs only[go_sem,seval,hB1]
  exact hk hw hlt _ _ _ Pr
 ·simp -implicitDefEqProofs only[go_sem,seval,hB]
  subst KB
  have hlv:=h.lv cj
  refine⟨[.bool (b8 p.st)],rfl,fun _=>⟨_,rfl,Du hlv (by rw[cj];exact⟨rfl,rfl⟩)⟩,?_⟩
  simp -implicitDefEqProofs only[go_sem,seval,hB,Bool.true_and,Bool.and_true]
  refine⟨fun hx=>he (by first|exact hx|exact absurd hx id),fun hx=>?_⟩
  have hw:b8 p.st=false:=by first|exact hw|exact hx
  refine⟨fun hx=>hd hw (by have:=of_decide_eq_true hx;omega),fun hx b hb=>?_⟩
  have hlt:p.st.length<64:=by have:=of_decide_eq_false hx;omega
  refine EA h bz hb rfl fun s1 rr' hB1⟨eX,Pr⟩=>?_
  unfold gZ at hB1
  simp -implicitDefEqProofs only[go_sem,seval,hB1]
  exact hk hw hlt _ _ _ Pr
theorem Zw{E:St}{d:Option Nat}{K:St->Prop}{s0:ab}{R:List (Nat×SO)}{r:cm}{l:List aa}(hσ:Holds s0 E.s (nb r l++R))(hf:Lf r l)
 (hK:∀s2,Holds s0 s2 R->K ({E with s:=s2}.put d (.sl false 4 l.length (flat l)))):zZ 4 false E d K (ga r l.length):=by
 cases r with
 |none=>
  obtain rfl:l=[]:=hf
  exact .inl ⟨rfl,rfl,rfl,hK E.s hσ⟩
 |some x=>
  obtain⟨b,cap,sp⟩:=x
  obtain⟨f1,f2,f3,f4⟩:=hf
  have hE':Holds s0 E.s ((b,.cells (flat l++sp))::R):=hσ
  refine .inr ⟨f1,f2,fun h=>(by cases h),?_⟩
  have hle:0+l.length*4<=(flat l++sp).length:=by rw[f3,Nat.zero_add];exact Nat.mul_le_mul_right _ f2
  have hc:iZ l.length 4 0 (E.s b)=some (l.length,flat l):=by
   rw[hE'.get]
   unfold iZ
   simp only[decide_eq_true hle,cond_true]
   have:=nI l sp 4 0 l.length rfl (by omega)
   rw[Nat.zero_mul]at this
   rw[this,List.drop_zero,List.take_length,bX]
  show zZ.frzK 4 false E d K b l.length (iZ l.length 4 0 (E.s b))
  rw[hc]
  exact hK _ hE'.del.1
theorem pE.pop{s0 s:ab}{B:Nat}{p:PS}{rr:cm}{id:Nat×cm}{ids:List (Nat×cm)}{v:aD}{vs:List aD}(h:pE s0 s B p rr (id::ids))(cj:p.st=v::vs):
 ∃rr',JH rr'=JH rr/\Hy rr'=Hy rr/\Lf rr' (refs ids.reverse)/\Sj ids vs/\Lf id.2 v.l_/\Holds s0 s ((B,.cells (gZ p rr))::(nb rr' (refs ids.reverse)++(X6 id v++Am ids vs))):=by
 have hr:=h.ref
 obtain⟨rb,cap,sp,rfl,_,_⟩:=hr
 obtain⟨h1,h2,h3⟩:=h
 rw[cj]at h1 h3
 obtain⟨f1,f2,f3,f4⟩:=h2
 have e:flat (refs (id::ids).reverse)++sp=flat (refs ids.reverse)++(.ref id.1 0::sp):=by rw[pj,eH,List.append_assoc];rfl
 refine⟨some (rb,cap,.ref id.1 0::sp),rfl,rfl,⟨f1,?_,?_,?_⟩,h1.2,h1.1,?_⟩
 ·rw[pk]at f2⊢;simp at f2⊢;omega
 ·rw[<-e];exact f3
 ·unfold views at f4⊢;rw[List.map_cons,f4];rfl
 ·unfold nb at h3⊢
  simp only[]at h3⊢
  rw[<-e]
  exact h3
theorem Ma{s0 s:ab}{X:Nat×SO}{R T:List (Nat×SO)}{id:Nat×cm}{v:aD}(h:Holds s0 s (X::(R++(X6 id v++T)))):Holds s0 s (nb id.2 v.l_++(X::(R++T))):=by
 have p1:(X::(R++(X6 id v++T))).Perm ((id.1,PU id.2 v)::((X::R)++(nb id.2 v.l_++T))):=List.perm_middle (l₁:=X::R)
 have p2:((X::R)++(nb id.2 v.l_++T)).Perm (nb id.2 v.l_++((X::R)++T)):=List.perm_append_comm_assoc ..
 exact(h.perm p1).tail.perm p2
def Q4:List AV:=[.int .i64 0,.int .i64 0,.str [],.sl false 4 0 []]
def nS(st:List aD)(fO:Bool):Bool:=match st with
 |[]=>true
 |v::_=>(v.dC !=fO)||(fO&&!b8 st)
abbrev vD(pf:List aa->Option (List aa×Int)):Prop:=∀(s:ab)(l:List aa)(r:List aa×Int),pf l=some r->FE prog 182 [.sl false 4 l.length (flat l)] s [.sl false 4 r.1.length (flat r.1),.int .i64 r.2] s
@[go_sem]theorem P1:kG .cZ=.no:=rfl
@[go_sem]theorem NX(o:Nat)(x:IX):fC o x (.gb [])=.no:=rfl
@[go_sem]theorem acU(E:St)(n:Nat):rd E (.gb []) n=none:=rfl
@[go_sem]theorem abK(op:UnOp):UJ op (.gb [])=.no:=by cases op<;>rfl
@[go_sem]theorem XD(ne:Bool)(y:AV):Ku ne (.gb []) y=.no:=rfl
theorem Vg{pf:List aa->Option (List aa×Int)}(hpf:vD pf){s0 s:ab}{B:Nat}{p:PS}{rr:cm}{ids:List (Nat×cm)}(h:pE s0 s B p rr ids)(bz:p.st.length<=64){fO:Bool}{Q:List AV->ab->Prop}
 (h0:nS p.st fO=true->Q [.agg Q4,.int .i64 11] s)
 (hA:∀v vs,p.st=v::vs->fO=false->nS p.st fO=false->∀s' rr' eX,pE s0 s' B {p with st:=vs} rr' eX->Q [.agg [.int .i64 6,.int .i64 0,.str [],.sl false 4 v.l_.length (flat v.l_)],.int .i64 0] s')
 (hD:∀v vs,p.st=v::vs->fO=true->nS p.st fO=false->ok (pf v.l_) fun r=>(r.2≠0->∀s',Sub s0 s'->Q [.agg Q4,.int .i64 r.2] s')/\
   (r.2=0->∀s' rr' eX,pE s0 s' B {p with st:=vs} rr' eX->Q [.agg [.int .i64 7,.int .i64 0,.str [],.sl false 4 r.1.length (flat r.1)],.int .i64 0] s')):FN prog 129 [.ref B 0,.bool fO] s Q:=by
 have hB:=h.cell
 have hlen:=pb h.1
 have hr:room=140737488355328:=rfl
 refine FO u7 rfl rfl ?_
 rw[mL]
 unfold gZ at hB
 simp -implicitDefEqProofs only[go_sem,Nat.reduceBEq,Nat.reduceAdd,Nat.reduceMul,Nat.reduceLeDiff,Nat.reduceEqDiff,Nat.reduceBNe,UInt8.reduceToNat,UInt32.reduceToNat]
 refine HK h (by omega) (fun cj=>?_) (fun id eX v vs KB cj=>?_)
 ·have Vq:nS p.st fO=true:=by rw[cj];rfl
  simp -implicitDefEqProofs only[go_sem,Nat.reduceBEq,Nat.reduceAdd,Nat.reduceMul,Nat.reduceLeDiff,Nat.reduceEqDiff,Nat.reduceBNe,UInt8.reduceToNat,UInt32.reduceToNat,hB,Bool.true_eq_false,false_implies,true_implies,true_and]
  exact h0 Vq
 ·subst KB
  have hlv:=h.lv cj
  unfold PU at hlv
  have hbd:nS p.st fO=((v.dC !=fO)||(fO&&!b8 p.st)):=by rw[cj];rfl
  have htw:b8 p.st=(v.dC&&((v.l_.length:Int).tmod 2==0)):=by rw[cj];rfl
  simp -implicitDefEqProofs only[go_sem,Nat.reduceBEq,Nat.reduceAdd,Nat.reduceMul,Nat.reduceLeDiff,Nat.reduceEqDiff,Nat.reduceBNe,UInt8.reduceToNat,UInt32.reduceToNat,hB]
  cases hdv:v.dC<;>cases fO
  all_goals(rw[hdv]at hlv;simp -implicitDefEqProofs only[go_sem,Nat.reduceBEq,Nat.reduceAdd,Nat.reduceMul,Nat.reduceLeDiff,Nat.reduceEqDiff,Nat.reduceBNe,UInt8.reduceToNat,UInt32.reduceToNat,hB,hlv,Bool.true_eq_false,Bool.false_eq_true,false_implies,true_implies,true_and,and_true,beq_self_eq_true,Bool.and_self,Bool.not_true,Bool.not_false,Bool.and_false,Bool.false_and,Bool.and_true,Bool.true_and])
  ·have hbf:nS p.st false=false:=by rw[hbd,hdv];rfl
   obtain⟨rr',e1,e2,f1,f2,f3,H⟩:=h.pop cj
   have fQ:p.st.length<=Hy rr:=by
    obtain⟨rb,cap,sp,rfl,_,_⟩:=h.ref
    have:=h.2.1.2.1
    rw[pk,List.length_reverse,hlen]at this
    exact this
   have hn:p.st.length=vs.length+1:=by rw[cj];rfl
   have hw:ao ((p.st.length:Int) -1)=(vs.length:Int):=by rw[au (by omega) (by omega)];omega
   rw[hw]
   refine⟨⟨by omega,by omega,by omega⟩,?_⟩
   have H':=H.set (o':=.cells (gZ {p with st:=vs} rr'))
   have es:gZ {p with st:=vs} rr'=[.sl false 1 p.b.length (flat p.b),.int .i64 p.at_,.bool p.last,.arr (JH rr) 0 (vs.length:Int).toNat (Hy rr)]:=by
    unfold gZ ga
    rw[e1,e2];rfl
   rw[es]at H'
   have hl2:=H'.mem (k:=id.1) (o:=PU id.2 v) (by simp[X6])
   rw[hl2]
   unfold PU
   simp -implicitDefEqProofs only[go_sem,Nat.reduceBEq,Nat.reduceAdd,Nat.reduceMul,Nat.reduceLeDiff,Nat.reduceEqDiff,Nat.reduceBNe,UInt8.reduceToNat,UInt32.reduceToNat]
   refine Zw (Ma H') f3 fun s2 H2=>?_
   simp -implicitDefEqProofs only[go_sem,Nat.reduceBEq,Nat.reduceAdd,Nat.reduceMul,Nat.reduceLeDiff,Nat.reduceEqDiff,Nat.reduceBNe,UInt8.reduceToNat,UInt32.reduceToNat]
   exact hA v vs cj rfl hbf s2 rr' eX ⟨f2,f1,by rw[es];exact H2⟩
  ·exact h0 (by rw[hbd,hdv];rfl)
  ·exact h0 (by rw[hbd,hdv];rfl)
  ·refine Du hlv ?_
   simp -implicitDefEqProofs only[go_sem,Nat.reduceBEq,Nat.reduceAdd,Nat.reduceMul,Nat.reduceLeDiff,Nat.reduceEqDiff,Nat.reduceBNe,UInt8.reduceToNat,UInt32.reduceToNat,hB,hlv,Bool.true_eq_false,Bool.false_eq_true,false_implies,true_implies,true_and,and_true,beq_self_eq_true,Bool.and_self,Bool.not_true,Bool.not_false,Bool.and_false,Bool.false_and,Bool.and_true,Bool.true_and]
   have ZX:b8 p.st=((v.l_.length:Int).tmod 2==0):=by rw[htw,hdv];rfl
   refine⟨fun hx=>h0 (by rw[hbd,hdv,ZX];simpa using hx),fun hx=>?_⟩
   have hbf:nS p.st true=false:=by rw[hbd,hdv,ZX];simpa using hx
   obtain⟨rr',e1,e2,f1,f2,f3,H⟩:=h.pop cj
   refine Zw (Ma H) f3 fun s2 H2=>?_
   have hB2:=H2.get
   unfold gZ at hB2
   obtain⟨r,hr1,hr2,hr3⟩:=hD v vs cj rfl hbf
   simp -implicitDefEqProofs only[go_sem,Nat.reduceBEq,Nat.reduceAdd,Nat.reduceMul,Nat.reduceLeDiff,Nat.reduceEqDiff,Nat.reduceBNe,UInt8.reduceToNat,UInt32.reduceToNat]
   refine FE.app (hpf s2 v.l_ r hr1) ⟨rfl,?_⟩
   simp -implicitDefEqProofs only[go_sem,Nat.reduceBEq,Nat.reduceAdd,Nat.reduceMul,Nat.reduceLeDiff,Nat.reduceEqDiff,Nat.reduceBNe,UInt8.reduceToNat,UInt32.reduceToNat,hB2]
   have fQ:p.st.length<=Hy rr:=by
    obtain⟨rb,cap,sp,rfl,_,_⟩:=h.ref
    have:=h.2.1.2.1
    rw[pk,List.length_reverse,hlen]at this
    exact this
   have hn:p.st.length=vs.length+1:=by rw[cj];rfl
   have hw:ao ((p.st.length:Int) -1)=(vs.length:Int):=by rw[au (by omega) (by omega)];omega
   rw[hw]
   have es:gZ {p with st:=vs} rr'=[.sl false 1 p.b.length (flat p.b),.int .i64 p.at_,.bool p.last,.arr (JH rr) 0 (vs.length:Int).toNat (Hy rr)]:=by
    unfold gZ ga
    rw[e1,e2];rfl
   refine⟨fun hx=>hr2 (by simpa using hx) s2 H2.1,fun hx=>⟨⟨by omega,by omega,by omega⟩,?_⟩⟩
   have H3:=H2.set (o':=.cells (gZ {p with st:=vs} rr'))
   rw[es]at H3
   exact hr3 (by simpa using hx) _ rr' eX ⟨f2,f1,by rw[es];exact H3⟩
theorem SX(b:List UInt8)(a:Int)(last:Bool)(o:AV)(v:aa){r:aa×Int×eN}(h:ct ⟨b,a,last,.cZ⟩ v=some r):ct ⟨b,a,last,o⟩ v=some (r.1,r.2.1,⟨b,r.2.2.at_,last,o⟩):=by
 unfold ct at h⊢
 simp only[]at h⊢
 cases h1:dp b a last with
 |none=>rw[h1]at h;cases h
 |some r1=>
  rw[h1]at h
  simp only[ba]at h⊢
  cases h2:dQ (!(r1.2 !=0)) false (cK r1.1)with
  |none=>rw[h2]at h;cases h
  |some r2=>
   rw[h2]at h
   simp only[]at h⊢
   cases h3:((r1.2 !=0)||(!r2))with
   |true=>
    simp only[h3,if_true]at h⊢
    cases h4:dq r1.2 with
    |none=>rw[h4]at h;cases h
    |some r3=>rw[h4]at h;cases h;rfl
   |false=>
    simp only[h3,Bool.false_eq_true,if_false]at h⊢
    cases h4:dp b r1.1.To last with
    |none=>rw[h4]at h;cases h
    |some r4=>
     rw[h4]at h
     simp only[]at h⊢
     cases h5:(((r4.2 !=0)||(r4.1.Kind !=6))||(!(r4.1.S.b==(aC.mk [82]).b)))with
     |true=>
      first
      |(simp only[h5,if_true]at h;cases h;done)
      |(simp only[h5,if_true]at h⊢
        cases h6:dq r4.2 with
        |none=>rw[h6]at h;cases h
        |some r5=>rw[h6]at h;cases h;rfl)
     |false=>
      simp only[h5,Bool.false_eq_true,if_false]at h⊢
      cases h6:(((decide (v.N<1))||(decide (v.N>4096)))||(r1.1.V.N !=0))with
      |true=>first|(simp only[h6,if_true]at h;cases h;done)|(simp only[h6,if_true]at h⊢;cases h;rfl)
      |false=>first|(simp only[h6,Bool.false_eq_true,if_false]at h;cases h;done)|(simp only[h6,Bool.false_eq_true,if_false]at h⊢;cases h;rfl)
def zV:aa:=⟨0,0,⟨[]⟩,[]⟩
def vA(v:aa):AV:=.agg [.int .i64 v.Kind,.int .i64 v.N,.str v.S.b,.sl false 4 v.L.length (flat v.L)]
def tA(t:ar):AV:=.agg [.int .i64 t.Kind,.int .i64 t.bA,.int .i64 t.To,.int .i64 t.V.Kind,.int .i64 t.V.N,.str t.V.S.b,.sl false 4 t.V.L.length (flat t.V.L),.str t.S.b]
def jd(p:PS)(t:ar):Option (aa×Int×Int):=
 if b8 p.st&&(t.Kind !=1||t.V.Kind !=5)then some (zV,11,p.at_)
 else if t.Kind==6 then ba (fF t.S) fun r=>some (r.1,r.2,p.at_)
 else ba (cK t) fun w=>if w then ba (ct ⟨p.b,p.at_,p.last,.cZ⟩ t.V) fun r=>some (r.1,r.2.1,r.2.2.at_)else some (t.V,0,p.at_)
theorem pE.place{s0 s:ab}{B:Nat}{p:PS}{rr:cm}{ids:List (Nat×cm)}(h:pE s0 s B p rr ids)(a:Int):pE s0 (s.set B (.cells (gZ {p with at_:=a} rr))) B {p with at_:=a} rr ids:=⟨h.1,h.2.1,h.2.2.set⟩
theorem Le{s0 s:ab}{B:Nat}{p:PS}{rr:cm}{ids:List (Nat×cm)}(h:pE s0 s B p rr ids){v:aa}{r:aa×Int×eN}(hr:ct ⟨p.b,p.at_,p.last,.cZ⟩ v=some r){Q:List AV->ab->Prop}
 (hq:∀s',pE s0 s' B {p with at_:=r.2.2.at_} rr ids->Q [vA r.1,.int .i64 r.2.1] s'):FN prog 184 [.ref B 0,vA v] s Q:=by
 refine vi (s_0:=⟨p.b,p.at_,p.last,ga rr p.st.length⟩) h.cell ⟨_,SX _ _ _ (ga rr p.st.length) _ hr,?_⟩
 exact hq _ (h.place _)
theorem NH{s0 s:ab}{B:Nat}{p:PS}{rr:cm}{ids:List (Nat×cm)}(h:pE s0 s B p rr ids)(bz:p.st.length<=64){t:ar}{Q:List AV->ab->Prop}
 (hm:ok (jd p t) fun r=>∀s',pE s0 s' B {p with at_:=r.2.2} rr ids->Q [vA r.1,.int .i64 r.2.1] s'):FN prog 130 [.ref B 0,tA t] s Q:=by
 have hB:=h.cell
 have hlen:=pb h.1
 have hr:room=140737488355328:=rfl
 unfold jd at hm
 simp only[Wv,eF,aP]at hm
 obtain⟨m1,m2⟩:=hm
 refine FO qM rfl rfl ?_
 rw[kA]
 unfold gZ at hB
 unfold tA
 simp -implicitDefEqProofs only[go_sem,seval]
 refine HK h (by omega) (fun cj=>?_) (fun id eX v vs KB cj=>?_)
 ·have htw:b8 p.st=false:=by rw[cj];rfl
  rw[htw]at m1 m2
  simp -implicitDefEqProofs only[go_sem,seval,hB,Bool.true_eq_false,Bool.false_eq_true,false_implies,true_implies,true_and,and_true]
  refine⟨fun hk=>?_,fun hk=>?_⟩
  ·obtain⟨r,hr1,hr2⟩:=(m2 rfl).1 hk
   refine FE.app (n9 hr1) ?_
   simp -implicitDefEqProofs only[go_sem,seval]
   exact hr2 s h
  ·obtain⟨w,hw1,hw2⟩:=(m2 rfl).2 hk
   refine FE.app (kc hw1) ?_
   simp -implicitDefEqProofs only[go_sem,seval]
   refine⟨fun hw=>?_,fun hw=>?_⟩
   ·obtain⟨r,hr1,hr2⟩:=hw2.1 hw
    refine Le h hr1 fun s' hs'=>?_
    unfold vA
    simp -implicitDefEqProofs only[go_sem,seval]
    exact hr2 s' hs'
   ·exact hw2.2 hw s h
 ·subst KB
  have hlv:=h.lv cj
  simp -implicitDefEqProofs only[go_sem,seval,hB]
  refine⟨fun _=>Du hlv ?_,fun hx=>by cases hx⟩
  have htw:(v.dC&&((v.l_.length:Int).tmod 2==0))=b8 p.st:=by rw[cj];rfl
  rw[htw]
  cases hw:b8 p.st<;>rw[hw]at m1 m2
  all_goals simp -implicitDefEqProofs only[go_sem,seval,hB,Bool.true_eq_false,Bool.false_eq_true,false_implies,true_implies,true_and,and_true]
  ·refine⟨fun hk=>?_,fun hk=>?_⟩
   ·obtain⟨r,hr1,hr2⟩:=(m2 rfl).1 hk
    refine FE.app (n9 hr1) ?_
    simp -implicitDefEqProofs only[go_sem,seval]
    exact hr2 s h
   ·obtain⟨w,hw1,hw2⟩:=(m2 rfl).2 hk
    refine FE.app (kc hw1) ?_
    simp -implicitDefEqProofs only[go_sem,seval]
    refine⟨fun hw=>?_,fun hw=>?_⟩
    ·obtain⟨r,hr1,hr2⟩:=hw2.1 hw
     refine Le h hr1 fun s' hs'=>?_
     unfold vA
     simp -implicitDefEqProofs only[go_sem,seval]
     exact hr2 s' hs'
    ·exact hw2.2 hw s h
  ·refine⟨fun hx=>m1 hx s h,fun hx=>?_⟩
   refine⟨fun hk=>?_,fun hk=>?_⟩
   ·obtain⟨r,hr1,hr2⟩:=(m2 hx).1 hk
    refine FE.app (n9 hr1) ?_
    simp -implicitDefEqProofs only[go_sem,seval]
    exact hr2 s h
   ·obtain⟨w,hw1,hw2⟩:=(m2 hx).2 hk
    refine FE.app (kc hw1) ?_
    simp -implicitDefEqProofs only[go_sem,seval]
    refine⟨fun hw=>?_,fun hw=>?_⟩
    ·obtain⟨r,hr1,hr2⟩:=hw2.1 hw
     refine Le h hr1 fun s' hs'=>?_
     unfold vA
     simp -implicitDefEqProofs only[go_sem,seval]
     exact hr2 s' hs'
    ·exact hw2.2 hw s h
def DH(pf:List aa->Option (List aa×Int))(p:PS)(fO:Bool):Option (aa×Int×PS):=
 bif nS p.st fO then some (zV,11,p)else
 match p.st with
 |[]=>none
 |v::vs=>bif fO then ba (pf v.l_) fun r=>bif r.2 !=0 then some (zV,r.2,p)else some (⟨7,0,⟨[]⟩,r.1⟩,0,{p with st:=vs})
  else some (⟨6,0,⟨[]⟩,v.l_⟩,0,{p with st:=vs})
def jO(p:PS)(fO:Bool):Int×PS:=bif b8 p.st then(11,p)else bif decide (64<=p.st.length)then(15,p)else(0,{p with st:=⟨fO,[]⟩::p.st})
def Tt(s0:ab)(B:Nat)(e:Int)(p:PS)(K:ab->Prop):Prop:=(e≠0->∀s',Sub s0 s'->K s')/\(e=0->∀s' rr' eX,pE s0 s' B p rr' eX->K s')
theorem Tt.at{s0 s:ab}{B:Nat}{e:Int}{p:PS}{K:ab->Prop}{rr:cm}{ids:List (Nat×cm)}(q:Tt s0 B e p K)(h:pE s0 s B p rr ids):K s:=by
 by_cases he:e=0
 ·exact q.2 he _ _ _ h
 ·exact q.1 he _ h.2.2.1
theorem Tt.mono{s0:ab}{B:Nat}{e:Int}{p:PS}{K K':ab->Prop}(q:Tt s0 B e p K)(h:∀s',K s'->K' s'):Tt s0 B e p K':=⟨fun he s' hs=>h _ (q.1 he s' hs),fun he s' rr' eX hs=>h _ (q.2 he s' rr' eX hs)⟩
theorem TS{pf:List aa->Option (List aa×Int)}(hpf:vD pf){s0 s:ab}{B:Nat}{p:PS}{rr:cm}{ids:List (Nat×cm)}(h:pE s0 s B p rr ids)(bz:p.st.length<=64){fO:Bool}{Q:List AV->ab->Prop}
 (hm:ok (DH pf p fO) fun r=>Tt s0 B r.2.1 r.2.2 (Q [vA r.1,.int .i64 r.2.1])):FN prog 129 [.ref B 0,.bool fO] s Q:=by
 unfold DH at hm
 refine Vg hpf h bz (fun hb=>?_) (fun v vs cj hd hb s' rr' eX hs'=>?_) (fun v vs cj hd hb=>?_)
 ·rw[hb,cond_true,aP]at hm
  exact hm.at h
 ·rw[hb,cond_false,cj]at hm
  subst hd
  simp only[cond_false,aP]at hm
  exact hm.at hs'
 ·rw[hb,cond_false,cj]at hm
  subst hd
  simp only[cond_true,eF]at hm
  obtain⟨r,hr,hm⟩:=hm
  refine⟨r,hr,fun he s' hs'=>?_,fun he s' rr' eX hs'=>?_⟩
  ·rw[show(r.2 !=0)=true by simpa using he,cond_true,aP]at hm
   exact hm.1 he s' hs'
  ·rw[show(r.2 !=0)=false by simpa using he,cond_false,aP]at hm
   exact hm.2 rfl s' rr' eX hs'
theorem Ly{s0 s:ab}{B:Nat}{p:PS}{rr:cm}{ids:List (Nat×cm)}(h:pE s0 s B p rr ids)(bz:p.st.length<=64){fO:Bool}{Q:List AV->ab->Prop}
 (hm:Tt s0 B (jO p fO).1 (jO p fO).2 (Q [.int .i64 (jO p fO).1])):FN prog 128 [.ref B 0,.bool fO] s Q:=by
 unfold jO at hm
 refine Om h bz (fun hw=>?_) (fun hw hl=>?_) (fun hw hl s' rr' eX hs'=>?_)
 ·rw[hw,cond_true]at hm
  exact hm.at h
 ·rw[hw,cond_false,decide_eq_true hl,cond_true]at hm
  exact hm.at h
 ·rw[hw,cond_false,decide_eq_false (by omega),cond_false]at hm
  exact hm.at hs'
def lR(pf:List aa->Option (List aa×Int))(p:PS)(t:ar):Option (aa×Bool×Int×PS):=
 bif t.Kind==0 then some (zV,false,10,p)
 else bif t.Kind==2||t.Kind==4 then some (zV,false,(jO p (t.Kind==4)).1,(jO p (t.Kind==4)).2)
 else bif t.Kind==3||t.Kind==5 then ba (DH pf p (t.Kind==5)) fun r=>some (r.1,r.2.1==0,r.2.1,r.2.2)
 else ba (jd p t) fun r=>bif r.2.1==0&&decide (64<=p.st.length)then some (r.1,false,15,{p with at_:=r.2.2})else some (r.1,r.2.1==0,r.2.1,{p with at_:=r.2.2})
theorem S8{pf:List aa->Option (List aa×Int)}(hpf:vD pf){s0 s:ab}{B:Nat}{p:PS}{rr:cm}{ids:List (Nat×cm)}(h:pE s0 s B p rr ids)(bz:p.st.length<=64){t:ar}{Q:List AV->ab->Prop}
 (hm:ok (lR pf p t) fun r=>Tt s0 B r.2.2.1 r.2.2.2 (Q [vA r.1,.bool r.2.1,.int .i64 r.2.2.1])):FN prog 75 [.ref B 0,tA t] s Q:=by
 have hr:room=140737488355328:=rfl
 unfold lR at hm
 refine FO tF rfl rfl ?_
 rw[lO]
 unfold tA
 cases h0:(t.Kind==0)with
 |true=>
  rw[h0,cond_true,aP]at hm
  simp -implicitDefEqProofs only[go_sem,seval,h0,Bool.true_eq_false,Bool.false_eq_true,false_implies,true_implies,true_and,and_true]
  exact hm.at h
 |false=>
 rw[h0,cond_false]at hm
 cases h2:(t.Kind==2)with
 |true=>
  have h4:(t.Kind==4)=false:=by have:=eq_of_beq h2;rw[this];rfl
  rw[h2,h4,Bool.true_or,cond_true,aP]at hm
  simp -implicitDefEqProofs only[go_sem,seval,h0,h2,h4,Bool.true_eq_false,Bool.false_eq_true,false_implies,true_implies,true_and,and_true,Bool.true_or,Bool.or_true,Bool.or_false]
  refine Ly h bz (hm.mono fun s' hq=>?_)
  simp -implicitDefEqProofs only[go_sem,seval]
  repeat'(first|((with_reducible refine Rn ?_ ?_);exact rfl)|((with_reducible refine aaC ?_ ?_);exact rfl)|simp -implicitDefEqProofs only[go_sem,seval])
  exact hq
 |false=>
 cases h4:(t.Kind==4)with
 |true=>
  rw[h2,h4,Bool.or_true,cond_true,aP]at hm
  simp -implicitDefEqProofs only[go_sem,seval,h0,h2,h4,Bool.true_eq_false,Bool.false_eq_true,false_implies,true_implies,true_and,and_true,Bool.true_or,Bool.or_true,Bool.or_false]
  refine Ly h bz (hm.mono fun s' hq=>?_)
  simp -implicitDefEqProofs only[go_sem,seval]
  repeat'(first|((with_reducible refine Rn ?_ ?_);exact rfl)|((with_reducible refine aaC ?_ ?_);exact rfl)|simp -implicitDefEqProofs only[go_sem,seval])
  exact hq
 |false=>
 rw[h2,h4,Bool.or_false,cond_false]at hm
 cases h3:(t.Kind==3)with
 |true=>
  have h5:(t.Kind==5)=false:=by have:=eq_of_beq h3;rw[this];rfl
  rw[h3,h5,Bool.true_or,cond_true,eF]at hm
  obtain⟨r,hr1,hm⟩:=hm
  rw[aP]at hm
  simp -implicitDefEqProofs only[go_sem,seval,h0,h2,h4,h3,h5,Bool.true_eq_false,Bool.false_eq_true,false_implies,true_implies,true_and,and_true,Bool.true_or,Bool.or_true,Bool.or_false]
  refine TS hpf h bz ⟨r,hr1,hm.mono fun s' hq=>?_⟩
  unfold vA
  simp -implicitDefEqProofs only[go_sem,seval]
  exact hq
 |false=>
 cases h5:(t.Kind==5)with
 |true=>
  rw[h3,h5,Bool.or_true,cond_true,eF]at hm
  obtain⟨r,hr1,hm⟩:=hm
  rw[aP]at hm
  simp -implicitDefEqProofs only[go_sem,seval,h0,h2,h4,h3,h5,Bool.true_eq_false,Bool.false_eq_true,false_implies,true_implies,true_and,and_true,Bool.true_or,Bool.or_true,Bool.or_false]
  refine TS hpf h bz ⟨r,hr1,hm.mono fun s' hq=>?_⟩
  unfold vA
  simp -implicitDefEqProofs only[go_sem,seval]
  exact hq
 |false=>
 rw[h3,h5,Bool.or_false,cond_false,eF]at hm
 obtain⟨r,hr1,hm⟩:=hm
 simp -implicitDefEqProofs only[go_sem,seval,h0,h2,h4,h3,h5,Bool.true_eq_false,Bool.false_eq_true,false_implies,true_implies,true_and,and_true,Bool.true_or,Bool.or_true,Bool.or_false]
 refine NH h bz ⟨r,hr1,fun s' hs'=>?_⟩
 have hB:=hs'.cell
 unfold gZ at hB
 unfold vA
 simp -implicitDefEqProofs only[go_sem,seval,hB]
 cases he:(r.2.1==0)with
 |false=>
  rw[he,Bool.false_and,cond_false,aP]at hm
  simp -implicitDefEqProofs only[go_sem,seval,hB,he,Bool.true_eq_false,Bool.false_eq_true,false_implies,true_implies,true_and,and_true,Bool.true_or,Bool.or_true,Bool.or_false]
  exact hm.at hs'
 |true=>
  rw[he,Bool.true_and]at hm
  simp -implicitDefEqProofs only[go_sem,seval,hB,he,Bool.true_eq_false,Bool.false_eq_true,false_implies,true_implies,true_and,and_true,Bool.true_or,Bool.or_true,Bool.or_false]
  refine⟨fun hl=>?_,fun hl=>?_⟩
  ·rw[show decide (64<=p.st.length)=true by have:=of_decide_eq_true hl;exact decide_eq_true (by omega),cond_true,aP]at hm
   exact hm.at hs'
  ·rw[show decide (64<=p.st.length)=false by have:=of_decide_eq_false hl;exact decide_eq_false (by omega),cond_false,aP]at hm
   exact hm.at hs'
end Go.AB
end
